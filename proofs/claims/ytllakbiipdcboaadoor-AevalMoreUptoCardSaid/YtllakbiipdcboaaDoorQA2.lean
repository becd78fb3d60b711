/-
  8 texts of this seat in one: PK0 PK1 PK6 PK7 PK12 PK8 PK9 PH1.
-/
import Derived.Test.YtllakbiipdcboaaDoorQA1
import Derived.Deep.LoopGhost
import Derived.RangeFuncRecord
import Derived.Laws.EntriesVeiled
import Derived.Maps.AppendAt
import Derived.Maps.OwnSet
import Derived.Recover
import Derived.Deep.RegionLaw
import Derived.Deep.RegionHeld
import Derived.Deep.RegionHeld2
/-
  Flat programs in plain Lean: what stands for one in memory, and the evaluator: what the program's feval and the document's answer both compute.
-/
set_option linter.unusedVariables false
set_option linter.unusedSimpArgs false
namespace Go.Proofs.YtllakbiipdcboaaDoor
open Go.RowKit

/-- an atom -/
structure Atm where
  v : Bool
  n : Int
instance : Inhabited Atm := ⟨⟨false, 0⟩⟩
/-- a body: its binds, one after another, and what it answers -/
inductive Anf where
  | ret (a : Atm)
  | bind (x k n : Int) (ats : List Atm) (ks : List Int) (bl : List Anf) (rest : Anf)
instance : Inhabited Anf := ⟨.ret default⟩
/-- how many binds stand at the body's own level -/
def Anf.len : Anf → Nat
  | .ret _ => 0
  | .bind _ _ _ _ _ _ r => r.len + 1
def Anf.last : Anf → Atm
  | .ret a => a
  | .bind _ _ _ _ _ _ r => r.last
/-- the body without its first binds -/
def Anf.tail : Anf → Nat → Anf
  | a, 0 => a
  | .ret a, _ => .ret a
  | .bind _ _ _ _ _ _ r, i + 1 => r.tail i
theorem Anf.tail_zero (a : Anf) : a.tail 0 = a := by cases a <;> rfl
/-- where a bind is left, it stands there -/
theorem Anf.tail_bind : ∀ (a : Anf) (i : Nat), i < a.len → ∃ x k n ats ks bl, a.tail i = .bind x k n ats ks bl (a.tail (i + 1))
  | .ret a, i, h => absurd h (Nat.not_lt_zero _)
  | .bind x k n ats ks bl r, 0, _ => ⟨x, k, n, ats, ks, bl, by simp [Anf.tail, Anf.tail_zero]⟩
  | .bind x k n ats ks bl r, i + 1, h => r.tail_bind i (by simp only [Anf.len] at h; omega)
theorem Anf.tail_ret : ∀ (a : Anf) (i : Nat), a.len ≤ i → a.tail i = .ret a.last
  | .ret a, 0, _ => rfl
  | .ret a, _ + 1, _ => rfl
  | .bind .., 0, h => by simp [Anf.len] at h
  | .bind _ _ _ _ _ _ r, i + 1, h => r.tail_ret i (by simp only [Anf.len] at h; omega)

/-- a function, a flat program -/
structure FFun where
  env : Int
  param : Int
  body : Anf
structure FlatP where
  funs : List FFun
  main : Anf

/-- atoms in memory, in blocks below B: two cells each -/
def AtomsIn (B : Nat) (w : World) (A : Option Addr) (ats : List Atm) : Prop :=
  ats.length * 16 ≤ 140737488351232 ∧ (ats = [] ∨ ∃ b o, A = some ⟨b, o, none⟩ ∧ b < B ∧ ∀ j, j < ats.length → w.cell? ⟨b, o + j * 2, none⟩ = some (.bool (ats[j]?.getD default).v) ∧ w.cell? ⟨b, o + j * 2 + 1, none⟩ = some (.int .i64 (ats[j]?.getD default).n))
theorem AtomsIn.below {B : Nat} {w w' : World} {A : Option Addr} {ats : List Atm} (h : AtomsIn B w A ats) (hb : Below B w w') : AtomsIn B w' A ats := by
  refine ⟨h.1, h.2.imp id ?_⟩
  rintro ⟨b, o, rfl, hlt, hc⟩
  exact ⟨b, o, rfl, hlt, fun j hj => ⟨(hb.cell (p := ⟨b, o + j * 2, none⟩) hlt).trans (hc j hj).1, (hb.cell (p := ⟨b, o + j * 2 + 1, none⟩) hlt).trans (hc j hj).2⟩⟩
theorem AtomsIn.mono {B B' : Nat} {w : World} {A : Option Addr} {ats : List Atm} (h : AtomsIn B w A ats) (hB : B ≤ B') : AtomsIn B' w A ats := by
  refine ⟨h.1, h.2.imp id ?_⟩
  rintro ⟨b, o, rfl, hlt, hc⟩
  exact ⟨b, o, rfl, by omega, hc⟩

/-! ### the evaluator -/
/-- a function that was made -/
structure AFn where
  param : Int
  body : Anf
  env : PEnv
/-- a run's state: steps that are left, closures that were made (a function's number, what is held), cells, what was printed, how many ints were asked for -/
structure FSt where
  left : Nat
  made : List AFn
  cells : List PV
  out : List Int
  asked : Nat
abbrev FOut := Res × FSt
def FOut.andThen (o : FOut) (f : PV → FSt → FOut) : FOut :=
  match o with
  | (.val v, s) => f v s
  | (.raised v, s) => (.raised v, s)
  | (.stuck, s) => (.stuck, s)
  | (.cut, s) => (.cut, s)
def atomP (e : PEnv) (a : Atm) : Option PV := if a.v then lookup e a.n else some (.int a.n)
def atomsP (e : PEnv) : List Atm → Option (List PV)
  | [] => some []
  | a :: ats => match atomP e a with | some v => (atomsP e ats).map (v :: ·) | none => none
def callF (funs : List FFun) (rec : Anf → PEnv → FSt → FOut) (f a : PV) (s : FSt) : FOut :=
  match f with
  | .fn i => if s.left = 0 then (.cut, s) else
      match s.made[i]? with
      | some g => rec g.body ((g.param, a) :: g.env) { s with left := s.left - 1 }
      | none => (.stuck, s)
  | _ => (.stuck, s)
section
variable (funs : List FFun) (inp : List Int) (rec : Anf → PEnv → FSt → FOut)
def readF (s : FSt) : FOut :=
  if s.asked < inp.length then (.val (.int (wrap31 (nth inp s.asked))), { s with asked := s.asked + 1 })
  else (.raised (.int 1), { s with asked := s.asked + 1 })
def primF (p : Int) (l : List PV) (s : FSt) : FOut :=
  let a := l[0]?.getD default
  let b := l[1]?.getD default
  if p = 10 then (.val (.ref s.cells.length), { s with cells := s.cells ++ [a] })
  else if p = 11 then (match a with | .ref i => (.val (s.cells[i]?.getD default), s) | _ => (.stuck, s))
  else if p = 12 then (match a with | .ref i => (.val (.int 0), { s with cells := s.cells.set i b }) | _ => (.stuck, s))
  else if p = 13 then (match a with | .int n => (.val (.int 0), { s with out := s.out ++ [n] }) | _ => (.stuck, s))
  else if p = 14 then readF inp s
  else if p = 15 then (match keyOf a with | some _ => (.raised a, s) | none => (.stuck, s))
  else if p = 16 then (match callF funs rec a (.int 0) s with | (.raised v, s') => callF funs rec b v s' | o => o)
  else match a, b with
    | .int x, .int y => (match doP p x y with | some n => (.val (.int n), s) | none => (.raised (.int 0), s))
    | _, _ => (.stuck, s)
def fieldF (v : PV) (n : Int) (s : FSt) : FOut :=
  match v with
  | .blk _ l => if 0 ≤ n ∧ n < l.length then (.val (l[n.toNat]?.getD default), s) else (.stuck, s)
  | _ => (.stuck, s)
/-- a right side, its atoms' values being known -/
def rhsF (k n : Int) (l : List PV) (ks : List Int) (bl : List Anf) (e : PEnv) (s : FSt) : FOut :=
  if k = 1 then (.val (l[0]?.getD default), s)
  else if k = 3 then (.val (.blk n l), s)
  else if k = 5 then (.val (.fn s.made.length), { s with made := s.made ++ [⟨n, bl[0]?.getD default, e⟩] })
  else if k = 4 then fieldF (l[0]?.getD default) n s
  else if k = 6 then callF funs rec (l[0]?.getD default) (l[1]?.getD default) s
  else if k = 8 then (match keyOf (l[0]?.getD default) with | some key => rec (bl[whichAt ks key]?.getD default) e s | none => (.stuck, s))
  else primF funs inp rec n l s
/-- functions that know one another -/
def groupEnv : List Int → Nat → PEnv → PEnv
  | x :: _ :: ks, i, e => groupEnv ks (i + 1) ((x, .fn i) :: e)
  | _, _, e => e
def groupMade (env : PEnv) : List Int → List Anf → List AFn
  | _ :: p :: ks, c :: cs => ⟨p, c, env⟩ :: groupMade env ks cs
  | _, _ => []
/-- a bind, a step having been taken, and what stands behind it -/
def bindF (x k n : Int) (ats : List Atm) (ks : List Int) (bl : List Anf) (rest : Anf) (e : PEnv) (s : FSt) : FOut :=
  if k = 7 then
    let e' := groupEnv ks s.made.length e
    rec rest e' { s with made := s.made ++ groupMade e' ks bl }
  else match atomsP e ats with
    | some l => FOut.andThen (rhsF funs inp rec k n l ks bl e s) fun v s => rec rest ((x, v) :: e) s
    | none => (.stuck, s)
end
/-- a body: n bounds how deep the evaluation goes -/
def evF (funs : List FFun) (inp : List Int) : Nat → Anf → PEnv → FSt → FOut
  | 0, _, _, s => (.cut, s)
  | _ + 1, .ret a, e, s => (match atomP e a with | some v => (.val v, s) | none => (.stuck, s))
  | m + 1, .bind x k n ats ks bl rest, e, s => if s.left = 0 then (.cut, s) else bindF funs inp (evF funs inp m) x k n ats ks bl rest e { s with left := s.left - 1 }
def endF (fuel : Nat) : FOut → PEnd
  | (.val _, s) => ⟨1, 0, s.out, fuel - s.left⟩
  | (.raised v, s) => if 0 ≤ (keyOf v).getD 0 then ⟨2, (keyOf v).getD 0, s.out, fuel - s.left⟩ else ⟨4, 0, s.out, fuel - s.left⟩
  | (.stuck, s) => ⟨4, 0, s.out, fuel - s.left⟩
  | (.cut, s) => ⟨3, 0, s.out, fuel - s.left⟩
def initF (fuel : Nat) : FSt := ⟨fuel, [], [], [], 0⟩
def runF (p : FlatP) (inp : List Int) (f : Int) : FOut := evF p.funs (inp.take 4096) (fuelOf f + 1) p.main [] (initF (fuelOf f))
end Go.Proofs.YtllakbiipdcboaaDoor

/-
  The plain evaluator of flat programs: what a run's state may become.
-/
set_option linter.unusedVariables false
set_option linter.unusedSimpArgs false
namespace Go.Proofs.YtllakbiipdcboaaDoor

/-- what a state may become -/
structure LeF (s s' : FSt) (k : Nat := 0) : Prop where
  left : s'.left ≤ s.left
  out : s'.out.length + s'.left ≤ s.out.length + s.left + k
  pre : s.out <+: s'.out
  asked : s.asked ≤ s'.asked
theorem LeF.refl (s : FSt) (k : Nat) : LeF s s k := ⟨Nat.le_refl _, by omega, List.prefix_refl _, Nat.le_refl _⟩
theorem LeF.trans {a b c : FSt} {k l : Nat} (h : LeF a b k) (h' : LeF b c l) : LeF a c (k + l) := ⟨Nat.le_trans h'.left h.left, by have := h.out; have := h'.out; omega, h.pre.trans h'.pre, Nat.le_trans h.asked h'.asked⟩
theorem LeF.mono {a b : FSt} {k l : Nat} (h : LeF a b k) (hkl : k ≤ l) : LeF a b l := ⟨h.left, by have := h.out; omega, h.pre, h.asked⟩
theorem andThenF_le {s : FSt} {o : FOut} {f : PV → FSt → FOut} {k l : Nat} (h : LeF s o.2 l) (hf : ∀ v s', LeF s' (f v s').2 k) : LeF s (FOut.andThen o f).2 (l + k) := by
  obtain ⟨r, s'⟩ := o
  cases r
  · exact h.trans (hf _ _)
  all_goals exact h.mono (by omega)
section
variable {funs : List FFun} {inp : List Int} {rec : Anf → PEnv → FSt → FOut} (hrec : ∀ t e s, LeF s (rec t e s).2)
include hrec
theorem callF_le (f a : PV) (s : FSt) : LeF s (callF funs rec f a s).2 := by
  unfold callF
  split
  · split
    · exact LeF.refl _ _
    · split
      · rename_i g _
        have h := hrec g.body ((g.param, a) :: g.env) { s with left := s.left - 1 }
        exact ⟨Nat.le_trans h.left (by simp), by have := h.out; simp at this ⊢; omega, h.pre, h.asked⟩
      · exact LeF.refl _ _
  · exact LeF.refl _ _
theorem primF_le (p : Int) (l : List PV) (s : FSt) : LeF s (primF funs inp rec p l s).2 1 := by
  unfold primF
  simp only []
  split
  · exact ⟨Nat.le_refl _, Nat.le_add_right _ _, List.prefix_refl _, Nat.le_refl _⟩
  split
  · split <;> exact LeF.refl _ _
  split
  · split
    · exact ⟨Nat.le_refl _, Nat.le_add_right _ _, List.prefix_refl _, Nat.le_refl _⟩
    · exact LeF.refl _ _
  split
  · split
    · exact ⟨Nat.le_refl _, by simp; omega, List.prefix_append _ _, Nat.le_refl _⟩
    · exact LeF.refl _ _
  split
  · unfold readF
    split <;> exact ⟨Nat.le_refl _, Nat.le_add_right _ _, List.prefix_refl _, Nat.le_succ _⟩
  split
  · split <;> exact LeF.refl _ _
  split
  · have h := callF_le (funs := funs) hrec (l[0]?.getD default) (.int 0) s
    split
    · rename_i v s' heq
      rw [heq] at h
      exact (h.trans (callF_le hrec _ _ _)).mono (by omega)
    · exact h.mono (by omega)
  split
  · split <;> exact LeF.refl _ _
  · exact LeF.refl _ _
omit hrec in
theorem fieldF_same (v : PV) (n : Int) (s : FSt) : (fieldF v n s).2 = s := by
  unfold fieldF
  split
  · split <;> rfl
  · rfl
theorem rhsF_le (k n : Int) (l : List PV) (ks : List Int) (bl : List Anf) (e : PEnv) (s : FSt) : LeF s (rhsF funs inp rec k n l ks bl e s).2 1 := by
  unfold rhsF
  split
  · exact LeF.refl _ _
  split
  · exact LeF.refl _ _
  split
  · exact ⟨Nat.le_refl _, Nat.le_add_right _ _, List.prefix_refl _, Nat.le_refl _⟩
  split
  · rw [fieldF_same]; exact LeF.refl _ _
  split
  · exact (callF_le hrec _ _ _).mono (by omega)
  split
  · split
    · exact (hrec _ _ _).mono (by omega)
    · exact LeF.refl _ _
  · exact primF_le hrec _ _ _
theorem bindF_le (x k n : Int) (ats : List Atm) (ks : List Int) (bl : List Anf) (rest : Anf) (e : PEnv) (s : FSt) : LeF s (bindF funs inp rec x k n ats ks bl rest e s).2 1 := by
  unfold bindF
  split
  · have h := hrec rest (groupEnv ks s.made.length e) { s with made := s.made ++ groupMade (groupEnv ks s.made.length e) ks bl }
    exact ⟨h.left, by have := h.out; simp at this ⊢; omega, h.pre, h.asked⟩
  · split
    · exact andThenF_le (l := 1) (k := 0) (rhsF_le hrec _ _ _ _ _ _ _) (fun v s' => hrec _ _ _)
    · exact LeF.refl _ _
end
theorem evF_le (funs : List FFun) (inp : List Int) : ∀ (n : Nat) (t : Anf) (e : PEnv) (s : FSt), LeF s (evF funs inp n t e s).2
  | 0, _, _, s => LeF.refl _ _
  | n + 1, .ret a, e, s => by
    unfold evF
    split <;> exact LeF.refl _ _
  | m + 1, .bind x k n ats ks bl rest, e, s => by
    unfold evF
    split
    · exact LeF.refl _ _
    · have h := bindF_le (funs := funs) (inp := inp) (evF_le funs inp m) x k n ats ks bl rest e { s with left := s.left - 1 }
      exact ⟨Nat.le_trans h.left (by simp), by have := h.out; simp at this ⊢; omega, h.pre, h.asked⟩
end Go.Proofs.YtllakbiipdcboaaDoor

/-
  Flat programs in memory.
-/
set_option linter.unusedVariables false
set_option linter.unusedSimpArgs false
namespace Go.Proofs.YtllakbiipdcboaaDoor
open Go.RowKit

/-- a body's binds from number i on, in the row at ⟨b, o⟩, six cells each -/
inductive AnfAt (B : Nat) (w : World) : Nat → Nat → Nat → Anf → Prop
  | ret (b o i : Nat) (a : Atm) : AnfAt B w b o i (.ret a)
  | bind {b o i : Nat} {x k n : Int} {ats : List Atm} {ks : List Int} {bl : List Anf} {rest : Anf} {Aa Ak Al : Option Addr} {ca ck cl bb oo : Nat} {AB : Nat → Option Addr} {CB BB OO : Nat → Nat} (hb : b < B)
      (c0 : w.cell? ⟨b, o + i * 6, none⟩ = some (.int .i64 x)) (c1 : w.cell? ⟨b, o + i * 6 + 1, none⟩ = some (.int .i64 k)) (c2 : w.cell? ⟨b, o + i * 6 + 2, none⟩ = some (.int .i64 n))
      (c3 : w.cell? ⟨b, o + i * 6 + 3, none⟩ = some (.slice Aa ats.length ca)) (c4 : w.cell? ⟨b, o + i * 6 + 4, none⟩ = some (.slice Ak ks.length ck)) (c5 : w.cell? ⟨b, o + i * 6 + 5, none⟩ = some (.slice Al bl.length cl))
      (ha : AtomsIn B w Aa ats) (hac : ats.length ≤ ca) (hk : IntsIn B w Ak ks) (hkc : ks.length ≤ ck) (hlc : bl.length ≤ cl) (hl8 : bl.length * 40 ≤ 140737488351232) (hA : 0 < bl.length → Al = some ⟨bb, oo, none⟩ ∧ bb < B)
      (d0 : ∀ j (h : j < bl.length), w.cell? ⟨bb, oo + j * 3, none⟩ = some (.slice (AB j) bl[j].len (CB j))) (d1 : ∀ j (h : j < bl.length), w.cell? ⟨bb, oo + j * 3 + 1, none⟩ = some (.bool bl[j].last.v)) (d2 : ∀ j (h : j < bl.length), w.cell? ⟨bb, oo + j * 3 + 2, none⟩ = some (.int .i64 bl[j].last.n))
      (hs : ∀ j (h : j < bl.length), bl[j].len ≤ CB j ∧ bl[j].len * 96 ≤ 140737488351232 ∧ (0 < bl[j].len → AB j = some ⟨BB j, OO j, none⟩)) (hsub : ∀ j (h : j < bl.length), AnfAt B w (BB j) (OO j) 0 bl[j])
      (hr : AnfAt B w b o (i + 1) rest) : AnfAt B w b o i (.bind x k n ats ks bl rest)
theorem AnfAt.kept {B : Nat} {w w' : World} (hb : Below B w w') {b o i : Nat} {t : Anf} (h : AnfAt B w b o i t) : AnfAt B w' b o i t := by
  induction h with
  | ret b o i a => exact .ret b o i a
  | bind hlt c0 c1 c2 c3 c4 c5 ha hac hk hkc hlc hl8 hA d0 d1 d2 hs hsub hr ih1 ih2 =>
    refine .bind hlt ((hb.cell (p := ⟨_, _, none⟩) hlt).trans c0) ((hb.cell (p := ⟨_, _, none⟩) hlt).trans c1) ((hb.cell (p := ⟨_, _, none⟩) hlt).trans c2) ((hb.cell (p := ⟨_, _, none⟩) hlt).trans c3) ((hb.cell (p := ⟨_, _, none⟩) hlt).trans c4) ((hb.cell (p := ⟨_, _, none⟩) hlt).trans c5)
      (ha.below hb) hac (hk.below hb) hkc hlc hl8 hA ?_ ?_ ?_ hs ih1 ih2
    · exact fun j hj => (hb.cell (p := ⟨_, _, none⟩) (hA (by omega)).2).trans (d0 j hj)
    · exact fun j hj => (hb.cell (p := ⟨_, _, none⟩) (hA (by omega)).2).trans (d1 j hj)
    · exact fun j hj => (hb.cell (p := ⟨_, _, none⟩) (hA (by omega)).2).trans (d2 j hj)
theorem AnfAt.mono {B B' : Nat} (hB : B ≤ B') {w : World} {b o i : Nat} {t : Anf} (h : AnfAt B w b o i t) : AnfAt B' w b o i t := by
  induction h with
  | ret b o i a => exact .ret b o i a
  | bind hlt c0 c1 c2 c3 c4 c5 ha hac hk hkc hlc hl8 hA d0 d1 d2 hs hsub hr ih1 ih2 =>
    exact .bind (Nat.lt_of_lt_of_le hlt hB) c0 c1 c2 c3 c4 c5 (ha.mono hB) hac (hk.mono hB) hkc hlc hl8 (fun h => ⟨(hA h).1, Nat.lt_of_lt_of_le (hA h).2 hB⟩) d0 d1 d2 hs ih1 ih2
/-- a body as a value: three cells -/
def BodyIn (B : Nat) (w : World) (t : Anf) (v : Array Value) : Prop :=
  ∃ A c b o, v = #[.slice A t.len c, .bool t.last.v, .int .i64 t.last.n] ∧ t.len ≤ c ∧ t.len * 96 ≤ 140737488351232 ∧ (0 < t.len → A = some ⟨b, o, none⟩) ∧ AnfAt B w b o 0 t
theorem BodyIn.kept {B : Nat} {w w' : World} (hb : Below B w w') {t : Anf} {v : Array Value} (h : BodyIn B w t v) : BodyIn B w' t v := by
  obtain ⟨A, c, b, o, h1, h2, h3, h4, h5⟩ := h
  exact ⟨A, c, b, o, h1, h2, h3, h4, h5.kept hb⟩
theorem BodyIn.mono {B B' : Nat} (hB : B ≤ B') {w : World} {t : Anf} {v : Array Value} (h : BodyIn B w t v) : BodyIn B' w t v := by
  obtain ⟨A, c, b, o, h1, h2, h3, h4, h5⟩ := h
  exact ⟨A, c, b, o, h1, h2, h3, h4, h5.mono hB⟩
/-- what stands from a bind on -/
theorem AnfAt.from_ {B : Nat} {w : World} {b o : Nat} : ∀ {t : Anf} {i : Nat}, AnfAt B w b o i t → ∀ j, AnfAt B w b o (i + j) (t.tail j) := by
  intro t i h j
  induction j generalizing t i with
  | zero => rw [Anf.tail_zero]; exact h
  | succ j ih =>
    cases h with
    | ret a => exact .ret _ _ _ _
    | bind hlt c0 c1 c2 c3 c4 c5 ha hac hk hkc hlc hl8 hA d0 d1 d2 hs hsub hr =>
      have := ih hr
      rw [show i + 1 + j = i + (j + 1) by omega] at this
      exact this
end Go.Proofs.YtllakbiipdcboaaDoor

/-
  Flat programs: how many parts a body has, as the statements' Nodes counts them (plain).
-/
set_option linter.unusedVariables false
set_option linter.unusedSimpArgs false
namespace Go.Proofs.YtllakbiipdcboaaDoor

mutual
/-- what Nodes has counted behind a chain of binds, some having been counted already -/
def nodesA : Anf → Int → Int → Int
  | .ret _, _, n => n
  | .bind _ _ _ ats ks bl rest, most, n => if n < most then nodesA rest most (nodesLA bl most (n + (1 + ats.length + ks.length))) else n
def nodesLA : List Anf → Int → Int → Int
  | [], _, n => n
  | c :: cs, most, n => if n < most then nodesLA cs most (n + nodesA c (most - n) 1) else n
end
mutual
theorem nodesA_ge : ∀ (t : Anf) (most n : Int), n ≤ nodesA t most n
  | .ret _, _, n => by simp [nodesA]
  | .bind _ _ _ ats ks bl rest, most, n => by
    unfold nodesA
    split
    · have h1 := nodesLA_ge bl most (n + (1 + ats.length + ks.length))
      have h2 := nodesA_ge rest most (nodesLA bl most (n + (1 + ats.length + ks.length)))
      omega
    · omega
theorem nodesLA_ge : ∀ (l : List Anf) (most n : Int), n ≤ nodesLA l most n
  | [], _, n => by simp [nodesLA]
  | c :: cs, most, n => by
    unfold nodesLA
    split
    · have h1 := nodesA_ge c (most - n) 1
      have h2 := nodesLA_ge cs most (n + nodesA c (most - n) 1)
      omega
    · omega
end
mutual
/-- all parts of a body -/
def partsA : Anf → Nat
  | .ret _ => 0
  | .bind _ _ _ ats ks bl rest => 1 + ats.length + ks.length + partsLA bl + partsA rest
def partsLA : List Anf → Nat
  | [] => 0
  | c :: cs => 1 + partsA c + partsLA cs
end
mutual
/-- a count that stays below the bound is the whole count -/
theorem nodesA_all : ∀ (t : Anf) (most n : Int), nodesA t most n < most → nodesA t most n = n + partsA t
  | .ret _, most, n, _ => by simp [nodesA, partsA]
  | .bind _ _ _ ats ks bl rest, most, n, h => by
    unfold nodesA at h ⊢
    split at h
    · rename_i hn
      rw [if_pos hn]
      have h1 := nodesA_ge rest most (nodesLA bl most (n + (1 + ats.length + ks.length)))
      have h2 := nodesLA_all bl most (n + (1 + ats.length + ks.length)) (by omega)
      rw [nodesA_all rest most _ h, h2]
      simp only [partsA]
      omega
    · omega
theorem nodesLA_all : ∀ (l : List Anf) (most n : Int), nodesLA l most n < most → nodesLA l most n = n + partsLA l
  | [], most, n, _ => by simp [nodesLA, partsLA]
  | c :: cs, most, n, h => by
    unfold nodesLA at h ⊢
    split at h
    · rename_i hn
      rw [if_pos hn]
      have h1 := nodesLA_ge cs most (n + nodesA c (most - n) 1)
      have h2 := nodesA_all c (most - n) 1 (by omega)
      rw [nodesLA_all cs most _ h, h2]
      simp only [partsLA]
      omega
    · omega
end
end Go.Proofs.YtllakbiipdcboaaDoor

/-
  Terms of which each part has a name: which may be, in plain Lean; what anf.Right answers.
-/
set_option linter.unusedVariables false
set_option linter.unusedSimpArgs false
namespace Go.Proofs.YtllakbiipdcboaaDoor

def inB (n a b : Int) : Bool := decide (a ≤ n) && decide (n ≤ b)
theorem inB_iff {n a b : Int} : inB n a b = true ↔ a ≤ n ∧ n ≤ b := by simp [inB]
def twoF (p : Int) : Bool := decide (p ≤ 9) || decide (p = 12) || decide (p = 16)
def varB (n : Int) : Bool := inB n 0 65535
/-- an atom that may be -/
def atomB (a : Atm) : Bool := if a.v then varB a.n else decide (wrap31 a.n = a.n)
/-- what is wrong with a right side's number -/
def numA (k n : Int) : Int :=
  if k = 2 then (if inB n 1 16 = true then 0 else 28)
  else if (if k = 5 then varB n else if k = 3 then inB n 0 1023 else if k = 4 then inB n 0 7 else decide (n = 0)) = true then 0 else 2
def countB (k n : Int) (na nk nb : Nat) : Bool :=
  if k = 2 then decide (na = (if twoF n = true then 2 else 1)) && (decide (nb = 0) && decide (nk = 0))
  else if k = 3 then inB na 1 8 && (decide (nb = 0) && decide (nk = 0))
  else if k = 7 then decide (na = 0) && (decide (2 * nb = nk) && (decide (2 ≤ nk) && decide (nk % 2 = 0)))
  else if k = 8 then decide (na = 1) && decide (nb = nk + 1)
  else if k = 5 then decide (na = 0) && (decide (nb = 1) && decide (nk = 0))
  else if k = 6 then decide (na = 2) && (decide (nb = 0) && decide (nk = 0))
  else decide (na = 1) && (decide (nb = 0) && decide (nk = 0))
/-- the functions' variables -/
def evensA : List Int → List Int
  | [] => []
  | [x] => [x]
  | x :: _ :: ks => x :: evensA ks
def risingB (l : List Int) : Bool := (List.range l.length).all (fun i => decide (wrap31 (nth l i) = nth l i) && (i == 0 || decide (nth l (i - 1) < nth l i)))
def keysA (x k : Int) (ks : List Int) : Bool :=
  if k = 7 then ks.all varB && (decide ((evensA ks).Nodup) && nth ks 0 == x)
  else if k = 8 then risingB ks
  else true
/-- what is wrong with a bind, but for its blocks -/
def bindE (x k n : Int) (ats : List Atm) (ks : List Int) (nb : Nat) : Int :=
  if k < 1 ∨ 8 < k then 29
  else if varB x = false then 2
  else if numA k n ≠ 0 then numA k n
  else if countB k n ats.length ks.length nb = false then 19
  else if ats.all atomB = false ∨ keysA x k ks = false then 2
  else 0
/-- a term's parts in order, with their depths: binds (the term from there on), what is answered -/
inductive Part where
  | bind (x k n : Int) (ats : List Atm) (ks : List Int) (nb : Nat)
  | ret (a : Atm)
mutual
def partsD (d : Int) : Anf → List (Int × Part)
  | .ret a => [(d, .ret a)]
  | .bind x k n ats ks bl r => (d, .bind x k n ats ks bl.length) :: (partsLD (d + 1) bl ++ partsD d r)
def partsLD (d : Int) : List Anf → List (Int × Part)
  | [] => []
  | c :: cs => partsD d c ++ partsLD d cs
end
def partE (ahead : Int) (q : Int × Part) : Int :=
  if 65536 ≤ ahead then 4 else if 400 < q.1 then 7
  else match q.2 with
    | .ret a => if atomB a = true then 0 else 2
    | .bind x k n ats ks nb => bindE x k n ats ks nb
def firstE (ahead : Int) : List (Int × Part) → Int
  | [] => 0
  | q :: l => if partE ahead q ≠ 0 then partE ahead q else firstE (ahead + 1) l
/-- **what anf.Right answers** -/
def rightA (t : Anf) : Int := firstE 0 (partsD 1 t)
/-- a term that may be (the number is idle) -/
inductive WfA (nf : Nat) : Anf → Prop
  | ret {a : Atm} (h : atomB a = true) : WfA nf (.ret a)
  | bind {x k n : Int} {ats : List Atm} {ks : List Int} {bl : List Anf} {rest : Anf} (he : bindE x k n ats ks bl.length = 0) (hb : ∀ c ∈ bl, WfA nf c) (hr : WfA nf rest) : WfA nf (.bind x k n ats ks bl rest)
theorem firstE_app : ∀ (l l' : List (Int × Part)) (a : Int), firstE a (l ++ l') = 0 → firstE a l = 0 ∧ firstE (a + l.length) l' = 0
  | [], l', a, h => ⟨rfl, by simpa using h⟩
  | q :: l, l', a, h => by
    simp only [List.cons_append, firstE] at h ⊢
    by_cases hq : partE a q = 0
    · rw [if_neg (by simp [hq])] at h ⊢
      obtain ⟨h1, h2⟩ := firstE_app l l' (a + 1) h
      refine ⟨h1, ?_⟩
      have e : a + ((q :: l).length : Int) = a + 1 + (l.length : Int) := by simp; omega
      rw [e]; exact h2
    · rw [if_pos hq] at h
      exact absurd h hq
theorem partE_zero {a : Int} {q : Int × Part} (h : partE a q = 0) : match q.2 with | .ret a => atomB a = true | .bind x k n ats ks nb => bindE x k n ats ks nb = 0 := by
  unfold partE at h
  split at h
  · simp at h
  split at h
  · simp at h
  obtain ⟨d, p⟩ := q
  cases p with
  | ret a =>
    simp only at h ⊢
    by_cases ha : atomB a = true
    · exact ha
    · rw [if_neg ha] at h; simp at h
  | bind x k n ats ks nb => exact h
theorem firstE_cons {q : Int × Part} {l : List (Int × Part)} {a : Int} (h : firstE a (q :: l) = 0) : partE a q = 0 ∧ firstE (a + 1) l = 0 := by
  unfold firstE at h
  by_cases hq : partE a q = 0
  · rw [if_neg (by simp [hq])] at h; exact ⟨hq, h⟩
  · rw [if_pos hq] at h; exact absurd h hq
mutual
theorem wf_of_first (nf : Nat) : ∀ (t : Anf) (d a : Int), firstE a (partsD d t) = 0 → WfA nf t
  | .ret at_, d, a, h => by
    rw [partsD] at h
    exact .ret (partE_zero (firstE_cons h).1)
  | .bind x k n ats ks bl r, d, a, h => by
    rw [partsD] at h
    obtain ⟨h1, h2⟩ := firstE_cons h
    obtain ⟨h3, h4⟩ := firstE_app _ _ _ h2
    exact .bind (partE_zero h1) (wfs_of_first nf bl _ _ h3) (wf_of_first nf r _ _ h4)
theorem wfs_of_first (nf : Nat) : ∀ (l : List Anf) (d a : Int), firstE a (partsLD d l) = 0 → ∀ c ∈ l, WfA nf c
  | [], d, a, _, c, hc => by simp at hc
  | b :: l, d, a, h, c, hc => by
    rw [partsLD] at h
    obtain ⟨h1, h2⟩ := firstE_app _ _ _ h
    rcases List.mem_cons.1 hc with hc | hc
    · rw [hc]; exact wf_of_first nf b _ _ h1
    · exact wfs_of_first nf l _ _ h2 c hc
end
theorem wf_of_rightA {t : Anf} (h : rightA t = 0) (nf : Nat) : WfA nf t := wf_of_first nf t 1 0 h
theorem ite_zero {p : Prop} [Decidable p] {a b : Int} (h : (if p then a else b) = 0) (ha : p → a ≠ 0) : ¬ p ∧ b = 0 := by
  by_cases hp : p
  · rw [if_pos hp] at h; exact absurd h (ha hp)
  · rw [if_neg hp] at h; exact ⟨hp, h⟩
/-! ### what a bind is that may be -/
structure BindOk (nf : Nat) (x k n : Int) (ats : List Atm) (ks : List Int) (nb : Nat) : Prop where
  k1 : 1 ≤ k
  k8 : k ≤ 8
  num : numA k n = 0
  count : countB k n ats.length ks.length nb = true
  atoms : ats.all atomB = true
  keys : keysA x k ks = true
theorem bindOk_of {nf : Nat} {x k n : Int} {ats : List Atm} {ks : List Int} {nb : Nat} (h : bindE x k n ats ks nb = 0) : BindOk nf x k n ats ks nb := by
  unfold bindE at h
  obtain ⟨h1, h⟩ := ite_zero h (fun _ => by decide)
  obtain ⟨h2, h⟩ := ite_zero h (fun _ => by decide)
  obtain ⟨h3, h⟩ := ite_zero h (fun h => h)
  obtain ⟨h4, h⟩ := ite_zero h (fun _ => by decide)
  obtain ⟨h5, h⟩ := ite_zero h (fun _ => by decide)
  refine ⟨by omega, by omega, by simpa using h3, by simpa using h4, ?_, ?_⟩
  · by_cases h6 : ats.all atomB = true
    · exact h6
    · exact absurd (.inl (by simpa using h6)) h5
  · by_cases h6 : keysA x k ks = true
    · exact h6
    · exact absurd (.inr (by simpa using h6)) h5
section
variable {nf nb : Nat} {x k n : Int} {ats : List Atm} {ks : List Int}
theorem BindOk.kind (h : BindOk nf x k n ats ks nb) : k = 1 ∨ k = 2 ∨ k = 3 ∨ k = 4 ∨ k = 5 ∨ k = 6 ∨ k = 7 ∨ k = 8 := by
  have := h.k1; have := h.k8; omega
theorem BindOk.one (h : BindOk nf x k n ats ks nb) (hk : k = 1 ∨ k = 4 ∨ k = 8) : ats.length = 1 := by
  have h1 := h.count
  unfold countB at h1
  rcases hk with rfl | rfl | rfl <;> simp at h1 <;> exact h1.1
theorem BindOk.app (h : BindOk nf x 6 n ats ks nb) : ats.length = 2 := by
  have h1 := h.count
  unfold countB at h1
  simp at h1
  exact h1.1
theorem BindOk.primL (h : BindOk nf x 2 n ats ks nb) : ats.length = if twoF n then 2 else 1 := by
  have h1 := h.count
  unfold countB at h1
  simp at h1
  exact h1.1
theorem BindOk.prim (h : BindOk nf x 2 n ats ks nb) : 1 ≤ n ∧ n ≤ 16 := by
  have h1 := h.num
  unfold numA at h1
  rw [if_pos rfl] at h1
  by_cases hb : inB n 1 16 = true
  · exact inB_iff.1 hb
  · rw [if_neg hb] at h1; simp at h1
theorem BindOk.block (h : BindOk nf x 3 n ats ks nb) : 1 ≤ ats.length ∧ ats.length ≤ 8 := by
  have h1 := h.count
  unfold countB at h1
  simp [inB] at h1
  omega
theorem BindOk.field (h : BindOk nf x 4 n ats ks nb) : 0 ≤ n ∧ n ≤ 7 := by
  have h1 := h.num
  unfold numA at h1
  simp only [show ¬ ((4 : Int) = 2) by decide, show ¬ ((4 : Int) = 5) by decide, show ¬ ((4 : Int) = 3) by decide, if_false, if_true] at h1
  by_cases hb : inB n 0 7 = true
  · exact inB_iff.1 hb
  · rw [if_neg hb] at h1; simp at h1
theorem BindOk.fn (h : BindOk nf x 5 n ats ks nb) : ats.length = 0 ∧ nb = 1 := by
  have h1 := h.count
  unfold countB at h1
  simp at h1
  exact ⟨by simpa using h1.1, h1.2.1⟩
theorem BindOk.switch (h : BindOk nf x 8 n ats ks nb) : nb = ks.length + 1 := by
  have h1 := h.count
  unfold countB at h1
  simp at h1
  exact h1.2
theorem BindOk.fix (h : BindOk nf x 7 n ats ks nb) : ats.length = 0 ∧ ks.length = 2 * nb ∧ 1 ≤ nb := by
  have h1 := h.count
  unfold countB at h1
  simp at h1
  obtain ⟨a, b, c, d⟩ := h1
  refine ⟨by simpa using a, by omega, by omega⟩
end
end Go.Proofs.YtllakbiipdcboaaDoor

/-
  Flat programs: a count of parts is no great number.
-/
set_option linter.unusedVariables false
set_option linter.unusedSimpArgs false
namespace Go.Proofs.YtllakbiipdcboaaDoor
open Go.RowKit

theorem nodesLA_le {M : Int} (hM : 1 ≤ M) : ∀ (l : List Anf), (∀ c ∈ l, ∀ most n : Int, nodesA c most n ≤ max n (most + M)) → ∀ most n : Int, nodesLA l most n ≤ max n (most + M)
  | [], _, most, n => by simp only [nodesLA]; omega
  | c :: cs, h, most, n => by
    unfold nodesLA
    split
    · rename_i hn
      have h1 := h c (by simp) (most - n) 1
      have h2 := nodesLA_le hM cs (fun c' hc => h c' (by simp [hc])) most (n + nodesA c (most - n) 1)
      omega
    · omega
theorem nodesA_le {B : Nat} {w : World} {b o i : Nat} {t : Anf} (h : AnfAt B w b o i t) : ∀ most n : Int, nodesA t most n ≤ max n (most + 27000000000000) := by
  induction h with
  | ret b o i a => intro most n; simp only [nodesA]; omega
  | @bind b o i x k n ats ks bl rest Aa Ak Al ca ck cl bb oo AB CB BB OO hlt c0 c1 c2 c3 c4 c5 ha hac hk hkc hlc hl8 hA d0 d1 d2 hs hsub hr ih1 ih2 =>
    intro most n
    have hal := ha.1
    have hkl := hk.1
    unfold nodesA
    split
    · rename_i hn
      have h1 := nodesLA_le (M := 27000000000000) (by decide) bl (fun c hc => by
        obtain ⟨j, hj, rfl⟩ := List.getElem_of_mem hc
        exact ih1 j hj) most (n + (1 + ats.length + ks.length))
      have h2 := ih2 most (nodesLA bl most (n + (1 + ats.length + ks.length)))
      omega
    · omega
/-- a bind's blocks are smaller -/
theorem size_tail : ∀ (t : Anf) (i : Nat), SizeOf.sizeOf (t.tail i) ≤ SizeOf.sizeOf t
  | .ret a, 0 => Nat.le_refl _
  | .ret a, _ + 1 => Nat.le_refl _
  | .bind .., 0 => Nat.le_refl _
  | .bind x k n ats ks bl r, i + 1 => by
    have := size_tail r i
    simp only [Anf.tail, Anf.bind.sizeOf_spec]
    omega
theorem size_block {t : Anf} {i : Nat} {x k n : Int} {ats : List Atm} {ks : List Int} {bl : List Anf} {rest c : Anf} (h : t.tail i = .bind x k n ats ks bl rest) (hc : c ∈ bl) : SizeOf.sizeOf c < SizeOf.sizeOf t := by
  have h1 := size_tail t i
  rw [h] at h1
  have h2 := List.sizeOf_lt_of_mem hc
  simp only [Anf.bind.sizeOf_spec] at h1
  omega
/-- a count's next step: a bind -/
theorem nodesA_step {t : Anf} {i : Nat} {x k m : Int} {ats : List Atm} {ks : List Int} {bl : List Anf} (h : t.tail i = .bind x k m ats ks bl (t.tail (i + 1))) {most n : Int} (hn : n < most) : nodesA (t.tail i) most n = nodesA (t.tail (i + 1)) most (nodesLA bl most (n + (1 + ats.length + ks.length))) := by
  rw [h, nodesA, if_pos hn]
theorem nodesA_stop {t : Anf} {most n : Int} (hn : ¬ n < most) : nodesA t most n = n := by
  cases t with
  | ret a => rfl
  | bind x k m ats ks bl rest => rw [nodesA, if_neg hn]
theorem nodesLA_step {l : List Anf} {j : Nat} (hj : j < l.length) {most n : Int} (hn : n < most) : nodesLA (l.drop j) most n = nodesLA (l.drop (j + 1)) most (n + nodesA l[j] (most - n) 1) := by
  rw [List.drop_eq_getElem_cons hj, nodesLA, if_pos hn]
theorem nodesLA_stop {l : List Anf} {most n : Int} (hn : ¬ n < most) : nodesLA l most n = n := by
  cases l with
  | nil => rfl
  | cons c cs => rw [nodesLA, if_neg hn]
end Go.Proofs.YtllakbiipdcboaaDoor

/-
  Flat programs in memory: a bind opened.
-/
set_option linter.unusedVariables false
set_option linter.unusedSimpArgs false
namespace Go.Proofs.YtllakbiipdcboaaDoor
open Go.RowKit

/-- a bind in memory: its six cells, its lists, its blocks -/
structure BindIn (B : Nat) (w : World) (b o : Nat) (x k n : Int) (ats : List Atm) (ks : List Int) (bl : List Anf) (Aa : Option Addr) (ca : Nat) (Ak : Option Addr) (ck : Nat) (Al : Option Addr) (cl : Nat) : Prop where
  lt : b < B
  c0 : w.cell? ⟨b, o, none⟩ = some (.int .i64 x)
  c1 : w.cell? ⟨b, o + 1, none⟩ = some (.int .i64 k)
  c2 : w.cell? ⟨b, o + 2, none⟩ = some (.int .i64 n)
  c3 : w.cell? ⟨b, o + 3, none⟩ = some (.slice Aa ats.length ca)
  c4 : w.cell? ⟨b, o + 4, none⟩ = some (.slice Ak ks.length ck)
  c5 : w.cell? ⟨b, o + 5, none⟩ = some (.slice Al bl.length cl)
  ha : AtomsIn B w Aa ats
  hac : ats.length ≤ ca
  hk : IntsIn B w Ak ks
  hkc : ks.length ≤ ck
  hlc : bl.length ≤ cl
  hl8 : bl.length * 40 ≤ 140737488351232
  blk : ∀ j (h : j < bl.length), ∃ bb oo g0 g1 g2, Al = some ⟨bb, oo, none⟩ ∧ bb < B ∧ w.cell? ⟨bb, oo + j * 3, none⟩ = some g0 ∧ w.cell? ⟨bb, oo + j * 3 + 1, none⟩ = some g1 ∧ w.cell? ⟨bb, oo + j * 3 + 2, none⟩ = some g2 ∧ BodyIn B w bl[j] #[g0, g1, g2]
theorem AnfAt.bind_ {B : Nat} {w : World} {b o i : Nat} {x k n : Int} {ats : List Atm} {ks : List Int} {bl : List Anf} {rest : Anf} (h : AnfAt B w b o i (.bind x k n ats ks bl rest)) : ∃ Aa ca Ak ck Al cl, BindIn B w b (o + i * 6) x k n ats ks bl Aa ca Ak ck Al cl := by
  cases h with
  | bind hlt c0 c1 c2 c3 c4 c5 ha hac hk hkc hlc hl8 hA d0 d1 d2 hs hsub hr =>
    refine ⟨_, _, _, _, _, _, ⟨hlt, c0, c1, c2, c3, c4, c5, ha, hac, hk, hkc, hlc, hl8, fun j hj => ?_⟩⟩
    obtain ⟨h1, h2⟩ := hA (by omega)
    obtain ⟨e1, e2, e3⟩ := hs j hj
    exact ⟨_, _, _, _, _, h1, h2, d0 j hj, d1 j hj, d2 j hj, _, _, _, _, rfl, e1, e2, e3, hsub j hj⟩
/-- the bind at a place of a body -/
theorem BodyIn.at_ {B : Nat} {w : World} {t : Anf} {v : Array Value} (h : BodyIn B w t v) : ∃ A c b o, v = #[.slice A t.len c, .bool t.last.v, .int .i64 t.last.n] ∧ t.len ≤ c ∧ t.len * 96 ≤ 140737488351232 ∧ (0 < t.len → A = some ⟨b, o, none⟩) ∧
    ∀ i, i < t.len → ∃ x k n ats ks bl Aa ca Ak ck Al cl, t.tail i = .bind x k n ats ks bl (t.tail (i + 1)) ∧ BindIn B w b (o + i * 6) x k n ats ks bl Aa ca Ak ck Al cl := by
  obtain ⟨A, c, b, o, h1, h2, h3, h4, h5⟩ := h
  refine ⟨A, c, b, o, h1, h2, h3, h4, fun i hi => ?_⟩
  obtain ⟨x, k, n, ats, ks, bl, he⟩ := t.tail_bind i hi
  have h6 := h5.from_ i
  rw [he, Nat.zero_add] at h6
  obtain ⟨Aa, ca, Ak, ck, Al, cl, h7⟩ := h6.bind_
  exact ⟨x, k, n, ats, ks, bl, Aa, ca, Ak, ck, Al, cl, he, h7⟩
end Go.Proofs.YtllakbiipdcboaaDoor

/-
  The flat evaluator in memory: what stands for values, environments, a run; what a step of the run may turn.
-/
set_option linter.unusedVariables false
set_option linter.unusedSimpArgs false
namespace Go.Proofs.YtllakbiipdcboaaDoor
open Go.RowKit

/-! ### what a run may turn -/
/-- the blocks of closures, of cells; the value of what was printed -/
structure Mem where
  fa : List Nat
  ca : List Nat
  vo : Value
def Mem.mut (rb : Nat) (m : Mem) (k : Nat) : Prop := k = rb ∨ m.vo.ownBlock = some k ∨ k ∈ m.ca
structure Evo (rb : Nat) (m m' : Mem) (W W' : World) : Prop where
  os : W'.os = W.os
  tape : W'.tape = W.tape
  output : W'.output = W.output
  size : W.heap.size ≤ W'.heap.size
  same : ∀ k, k < W.heap.size → ¬ m.mut rb k → W'.heap[k]? = W.heap[k]?
  fresh : ∀ k, m'.mut rb k → m.mut rb k ∨ W.heap.size ≤ k
  fa : m.fa <+: m'.fa
  ca : m.ca <+: m'.ca
theorem Evo.refl (rb : Nat) (m : Mem) (W : World) : Evo rb m m W W := ⟨rfl, rfl, rfl, Nat.le_refl _, fun _ _ _ => rfl, fun _ h => .inl h, List.prefix_refl _, List.prefix_refl _⟩
theorem Evo.trans {rb : Nat} {a b c : Mem} {A B C : World} (h : Evo rb a b A B) (k : Evo rb b c B C) : Evo rb a c A C :=
  ⟨k.os.trans h.os, k.tape.trans h.tape, k.output.trans h.output, Nat.le_trans h.size k.size,
   fun i hi hm => (k.same i (Nat.lt_of_lt_of_le hi h.size) (fun hb => by rcases h.fresh i hb with hb | hb; exact hm hb; omega)).trans (h.same i hi hm),
   fun i hi => by
     rcases k.fresh i hi with hb | hb
     · exact h.fresh i hb
     · exact .inr (Nat.le_trans h.size hb),
   h.fa.trans k.fa, h.ca.trans k.ca⟩
theorem Evo.below {rb : Nat} {m : Mem} {W W' : World} (h : Below W.heap.size W W') : Evo rb m m W W' :=
  ⟨h.os, h.tape, h.output, h.size, fun k hk _ => h.block k hk, fun _ h => .inl h, List.prefix_refl _, List.prefix_refl _⟩
theorem Evo.alloc (rb : Nat) (m : Mem) (W : World) (o : Obj) : Evo rb m m W (W.alloc o) := Evo.below ((Below.refl _ _).alloc (Nat.le_refl _) _)
theorem Evo.setCell {rb : Nat} {m : Mem} (W : World) {b : Nat} (o : Nat) (v : Value) (hb : m.mut rb b) : Evo rb m m W (W.setCell ⟨b, o, none⟩ v) :=
  ⟨rfl, rfl, rfl, by simp [World.setCell], fun k hk hm => Below.heap_setCell W _ _ k (fun e => hm (by subst e; exact hb)), fun _ h => .inl h, List.prefix_refl _, List.prefix_refl _⟩
theorem Evo.drew {rb : Nat} {m m' : Mem} {W W' : World} (h : Evo rb m m' W W') : Evo rb m m' W W'.drew := ⟨h.os, h.tape, h.output, h.size, h.same, h.fresh, h.fa, h.ca⟩
/-- the books may be kept anew: closures and cells more, at new blocks -/
theorem Evo.more {rb : Nat} {m m' m'' : Mem} {W W' : World} (h : Evo rb m m' W W') (hfa : m'.fa <+: m''.fa) (hca : m'.ca <+: m''.ca) (hf : ∀ k, m''.mut rb k → m.mut rb k ∨ W.heap.size ≤ k) : Evo rb m m'' W W' :=
  ⟨h.os, h.tape, h.output, h.size, h.same, hf, h.fa.trans hfa, h.ca.trans hca⟩
/-- a store behind what stood at first -/
theorem Evo.setNew {rb : Nat} {m m' : Mem} {W W' : World} (h : Evo rb m m' W W') {b : Nat} (hb : W.heap.size ≤ b) (o : Nat) (v : Value) : Evo rb m m' W (W'.setCell ⟨b, o, none⟩ v) :=
  ⟨h.os, h.tape, h.output, by simpa [World.setCell] using h.size, fun k hk hm => (Below.heap_setCell W' _ _ k (by show k ≠ b; omega)).trans (h.same k hk hm), h.fresh, h.fa, h.ca⟩

/-- a block that lies and that nothing turns any more -/
def At (rb : Nat) (m : Mem) (W : World) (b : Nat) (o : Obj) : Prop := W.heap[b]? = some o ∧ ¬ m.mut rb b
theorem Evo.still {rb : Nat} {m m' : Mem} {W W' : World} (hk : Evo rb m m' W W') {k : Nat} (h : k < W.heap.size) (hn : ¬ m.mut rb k) : ¬ m'.mut rb k := fun hb => by
  rcases hk.fresh k hb with hb | hb
  · exact hn hb
  · omega
theorem At.evo {rb : Nat} {m m' : Mem} {W W' : World} {b : Nat} {o : Obj} (h : At rb m W b o) (hk : Evo rb m m' W W') : At rb m' W' b o :=
  have hlt := (Array.getElem?_eq_some_iff.1 h.1).1
  ⟨(hk.same b hlt h.2).trans h.1, hk.still hlt h.2⟩

/-- what stands for a value -/
inductive RepV (rb : Nat) (m : Mem) (W : World) : PV → Value → Prop
  | int (n : Int) : RepV rb m W (.int n) (.iface 88 (.int .i64 n))
  | blk {tag : Int} {kids : List PV} {b g cap : Nat} {F : Nat → Value} (hb : At rb m W b (.cells #[.int .i64 tag, .slice (some ⟨g, 0, none⟩) kids.length cap] 92 (0, 0)))
      (hg : g < W.heap.size) (hgm : ¬ m.mut rb g) (hl : kids.length ≤ cap) (h0 : 0 < kids.length) (h8 : kids.length ≤ 255) (hc : ∀ j, j < kids.length → W.cell? ⟨g, j, none⟩ = some (F j)) (hk : ∀ j (h : j < kids.length), RepV rb m W kids[j] (F j)) :
      RepV rb m W (.blk tag kids) (.iface 89 (.pointer (some ⟨b, 0, none⟩)))
  | fn {i b : Nat} (h : m.fa[i]? = some b) : RepV rb m W (.fn i) (.iface 94 (.pointer (some ⟨b, 0, none⟩)))
  | ref {i b : Nat} (h : m.ca[i]? = some b) : RepV rb m W (.ref i) (.iface 112 (.pointer (some ⟨b, 0, none⟩)))
theorem prefix_get {α : Type} {a b : List α} (h : a <+: b) {i : Nat} {x : α} (hx : a[i]? = some x) : b[i]? = some x := by
  obtain ⟨r, rfl⟩ := h
  rw [List.getElem?_append_left (List.getElem?_eq_some_iff.1 hx).1]; exact hx
theorem cell_of_heap {W W' : World} {g : Nat} (h : W'.heap[g]? = W.heap[g]?) (o : Nat) : W'.cell? ⟨g, o, none⟩ = W.cell? ⟨g, o, none⟩ := World.cell?_of_block (w := W) h
theorem RepV.evo {rb : Nat} {m m' : Mem} {W W' : World} (hk : Evo rb m m' W W') {v : PV} {g : Value} (h : RepV rb m W v g) : RepV rb m' W' v g := by
  induction h with
  | int n => exact .int n
  | blk hb hg hgm hl h0 h8 hc _ ih =>
    exact .blk (hb.evo hk) (Nat.lt_of_lt_of_le hg hk.size) (hk.still hg hgm) hl h0 h8 (fun j hj => (cell_of_heap (hk.same _ hg hgm) j).trans (hc j hj)) ih
  | fn h => exact .fn (prefix_get hk.fa h)
  | ref h => exact .ref (prefix_get hk.ca h)
theorem RepV.shape {rb : Nat} {m : Mem} {W : World} {v : PV} {g : Value} (h : RepV rb m W v g) : ∃ T p, g = .iface T p := by
  cases h <;> exact ⟨_, _, rfl⟩
/-- what stands for what is known -/
inductive EnvIn (rb : Nat) (m : Mem) (W : World) : PEnv → Value → Prop
  | nil : EnvIn rb m W [] (.pointer none)
  | cons {x : Int} {v : PV} {e : PEnv} {gv nx : Value} {b : Nat} (hb : At rb m W b (.cells #[.int .i64 x, gv, nx] 76 (0, 0))) (hv : RepV rb m W v gv) (he : EnvIn rb m W e nx) : EnvIn rb m W ((x, v) :: e) (.pointer (some ⟨b, 0, none⟩))
theorem EnvIn.evo {rb : Nat} {m m' : Mem} {W W' : World} (hk : Evo rb m m' W W') {e : PEnv} {g : Value} (h : EnvIn rb m W e g) : EnvIn rb m' W' e g := by
  induction h with
  | nil => exact .nil
  | cons hb hv _ ih => exact .cons (hb.evo hk) (hv.evo hk) ih
theorem EnvIn.shape {rb : Nat} {m : Mem} {W : World} {e : PEnv} {g : Value} (h : EnvIn rb m W e g) : ∃ p, g = .pointer p := by
  cases h <;> exact ⟨_, rfl⟩

/-- a run in memory -/
structure Good (rb B : Nat) (p : FlatP) (inp : List Int) (fuel : Nat) (s : FSt) (m : Mem) (W : World) : Prop where
  Bs : B ≤ W.heap.size
  rbB : B ≤ rb
  left : s.left ≤ fuel
  fuelB : fuel ≤ 1000000
  bnd : s.out.length + s.left ≤ fuel
  run : ∃ Ai ci, W.heap[rb]? = some (.cells #[.slice Ai (inp.drop s.asked).length ci, .int .i64 fuel, .int .i64 0, .int .i64 0, m.vo, .int .i64 ((fuel : Int) - s.left)] 55 (0, 0)) ∧ IntsIn B W Ai (inp.drop s.asked) ∧ (inp.drop s.asked).length ≤ ci
  out : W.ownsRow B 3 1 m.vo s.out.length (s.out.map (Value.int .i64))
  falen : m.fa.length = s.made.length
  fns : ∀ i (h : i < s.made.length), ∃ b a0 a1 a2 ge, m.fa[i]? = some b ∧ At rb m W b (.cells #[.int .i64 s.made[i].param, a0, a1, a2, ge] 96 (0, 0)) ∧ BodyIn B W s.made[i].body #[a0, a1, a2] ∧ WfA p.funs.length s.made[i].body ∧ EnvIn rb m W s.made[i].env ge
  calen : m.ca.length = s.cells.length
  cells : ∀ i (h : i < s.cells.length), ∃ b gv, m.ca[i]? = some b ∧ W.heap[b]? = some (.cells #[gv] 113 (0, 0)) ∧ RepV rb m W s.cells[i] gv
  nodup : m.ca.Nodup
  rbca : rb ∉ m.ca
  rbo : m.vo.ownBlock ≠ some rb
  oca : ∀ b ∈ m.ca, m.vo.ownBlock ≠ some b
  caB : ∀ b ∈ m.ca, B ≤ b
section
variable {rb B : Nat} {p : FlatP} {inp : List Int} {fuel : Nat} {s : FSt} {m m' : Mem} {W W' : World}
theorem Good.mutB (h : Good rb B p inp fuel s m W) {k : Nat} (hk : m.mut rb k) : B ≤ k := by
  rcases hk with rfl | hk | hk
  · exact h.rbB
  · exact (h.out.lt k hk).1
  · exact h.caB k hk
theorem Good.mutLt (h : Good rb B p inp fuel s m W) {k : Nat} (hk : m.mut rb k) : k < W.heap.size := by
  rcases hk with rfl | hk | hk
  · obtain ⟨_, _, hr, _⟩ := h.run; exact (Array.getElem?_eq_some_iff.1 hr).1
  · exact (h.out.lt k hk).2
  · obtain ⟨i, hi, rfl⟩ := List.getElem_of_mem hk
    obtain ⟨b, gv, h1, h2, _⟩ := h.cells i (by rw [← h.calen]; exact hi)
    rw [List.getElem?_eq_getElem hi] at h1
    cases h1
    exact (Array.getElem?_eq_some_iff.1 h2).1
/-- the run leaves what lies below as it is -/
theorem Good.stay (h : Good rb B p inp fuel s m W) (hk : Evo rb m m' W W') : Below B W W' :=
  ⟨hk.os, hk.tape, hk.output, hk.size, fun k hlt => hk.same k (Nat.lt_of_lt_of_le hlt h.Bs) (fun hm => by have := h.mutB hm; omega)⟩
theorem Good.fnsEvo (hg : Good rb B p inp fuel s m W) (hk : Evo rb m m' W W') : ∀ i (h : i < s.made.length), ∃ b a0 a1 a2 ge, m'.fa[i]? = some b ∧ At rb m' W' b (.cells #[.int .i64 s.made[i].param, a0, a1, a2, ge] 96 (0, 0)) ∧ BodyIn B W' s.made[i].body #[a0, a1, a2] ∧ WfA p.funs.length s.made[i].body ∧ EnvIn rb m' W' s.made[i].env ge := fun i hi => by
  obtain ⟨b, a0, a1, a2, ge, h1, h2, h3, h4, h5⟩ := hg.fns i hi
  exact ⟨b, a0, a1, a2, ge, prefix_get hk.fa h1, h2.evo hk, h3.kept (hg.stay hk), h4, h5.evo hk⟩
/-- what lies beside a run may grow -/
theorem Good.below (h : Good rb B p inp fuel s m W) (hb : Below W.heap.size W W') : Good rb B p inp fuel s m W' := by
  have hk : Evo rb m m W W' := Evo.below hb
  have hst := h.stay hk
  obtain ⟨Ai, ci, hr, hi, hci⟩ := h.run
  refine ⟨Nat.le_trans h.Bs hb.size, h.rbB, h.left, h.fuelB, h.bnd, ⟨Ai, ci, (hb.block rb (Array.getElem?_eq_some_iff.1 hr).1).trans hr, hi.below hst, hci⟩, ?_, h.falen, h.fnsEvo hk, h.calen, ?_, h.nodup, h.rbca, h.rbo, h.oca, h.caB⟩
  · exact h.out.kept ⟨hb.os, hb.tape, hb.output, hb.size, fun i hi _ => hb.block i hi⟩ (row := none) (by cases m.vo.ownBlock <;> simp)
  · intro i hi'
    obtain ⟨b, gv, h1, h2, h3⟩ := h.cells i hi'
    exact ⟨b, gv, h1, (hb.block b (Array.getElem?_eq_some_iff.1 h2).1).trans h2, h3.evo hk⟩
end

theorem at_cell0 {rb : Nat} {m : Mem} {W : World} {b : Nat} {cs : Array Value} {t : TypeId} {fr : Nat × Nat} (h : At rb m W b (.cells cs t fr)) {i : Nat} {v : Value} (hv : cs[i]? = some v) : W.cell? ⟨b, i, none⟩ = some v := by
  simp [World.cell?, h.1, hv]
theorem at_new {rb : Nat} {m : Mem} {W : World} (hm : ∀ k, m.mut rb k → k < W.heap.size) (cs : Array Value) (t : TypeId) : At rb m (W.alloc (.cells cs t)) W.heap.size (.cells cs t) :=
  ⟨World.alloc_heap_new W _, fun h => by have := hm _ h; omega⟩
theorem at_frozen {rb : Nat} {m : Mem} {W : World} {b : Nat} {cs : Array Value} {t : TypeId} (h : At rb m W b (.cells cs t (0, 0))) (o : Nat) : W.frozen? ⟨b, o, none⟩ = false := by
  simp [World.frozen?, h.1]
theorem cell_behind {W W' : World} (hb : Below W.heap.size W W') {b o : Nat} {v : Value} (h : W.cell? ⟨b, o, none⟩ = some v) : W'.cell? ⟨b, o, none⟩ = some v :=
  (hb.cell (p := ⟨b, o, none⟩) (World.block_lt_of_cell? _ _ h)).trans h
end Go.Proofs.YtllakbiipdcboaaDoor
