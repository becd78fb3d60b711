/-
  15 texts of this seat in one: A E0 K0 K1 K6 K7 K8 K9 K4 K12 K5 K13 K14 K2 K17.
-/
import Derived.WalkKit
import Derived.WalkLawsBesides
import Derived.WalkSpells
import Derived.Lib.Hide
import Derived.Deep.QuietTactic
import Derived.BigQuiet
import Derived.Test.YtnobggabjpcbfaaProg
/-
  Words shared by all texts of this seat: lists of ints in memory, core terms in memory, small lemmas.
-/
set_option linter.unusedVariables false
set_option linter.unusedSimpArgs false
namespace Go.Proofs.Ytnobggabjpcbfaa
open Go.RowKit

theorem ret_int {k : IntKind} {a b : Int} (h : a = b) : Ending.returned (.int k a) = .returned (.int k b) := by rw [h]
theorem ret_bool {a b : Bool} (h : a = b) : Ending.returned (.bool a) = .returned (.bool b) := by rw [h]

theorem below_drewN {B : Nat} {a w : World} (h : Below B a w) (n : Nat) : Below B a (w.drewN n) := ⟨h.os, h.tape, h.output, h.size, h.block⟩
theorem below_alloc {w W : World} (h : Below w.heap.size w W) (o : Obj) : Below w.heap.size w (W.alloc o) := h.alloc h.size o
/-- the element at a place: a word that the walk does not look into -/
def nth (l : List Int) (i : Nat) : Int := l[i]?.getD 0
theorem nth_eq (l : List Int) {i : Nat} (h : i < l.length) : nth l i = l[i] := by simp [nth, h]
theorem nth_mem (l : List Int) {i : Nat} (h : i < l.length) : nth l i ∈ l := by rw [nth_eq l h]; exact List.getElem_mem h
theorem nth_take (l : List Int) {i n : Nat} (h : i < n) : nth (l.take n) i = nth l i := by simp [nth, List.getElem?_take, h]
theorem take_snoc (l : List Int) {k : Nat} (h : k < l.length) : l.take (k + 1) = l.take k ++ [nth l k] := by
  rw [List.take_add_one, List.getElem?_eq_getElem h, nth_eq l h]; rfl

/-- ints in memory, in blocks below B -/
def IntsIn (B : Nat) (w : World) (A : Option Addr) (ks : List Int) : Prop :=
  ks.length * 8 ≤ 140737488351232 ∧ (ks = [] ∨ ∃ b o, A = some ⟨b, o, none⟩ ∧ b < B ∧ ∀ j, j < ks.length → w.cell? ⟨b, o + j, none⟩ = some (.int .i64 (nth ks j)))
theorem IntsIn.below {B : Nat} {w w' : World} {A : Option Addr} {ks : List Int} (h : IntsIn B w A ks) (hb : Below B w w') : IntsIn B w' A ks := by
  refine ⟨h.1, h.2.imp id ?_⟩
  rintro ⟨b, o, rfl, hlt, hc⟩
  exact ⟨b, o, rfl, hlt, fun j hj => (hb.cell (p := ⟨b, o + j, none⟩) hlt).trans (hc j hj)⟩
theorem IntsIn.mono {B B' : Nat} {w : World} {A : Option Addr} {ks : List Int} (h : IntsIn B w A ks) (hB : B ≤ B') : IntsIn B' w A ks := by
  refine ⟨h.1, h.2.imp id ?_⟩
  rintro ⟨b, o, rfl, hlt, hc⟩
  exact ⟨b, o, rfl, by omega, hc⟩
theorem IntsIn.take {B : Nat} {w : World} {A : Option Addr} {ks : List Int} (h : IntsIn B w A ks) (n : Nat) : IntsIn B w A (ks.take n) := by
  have hl : (ks.take n).length ≤ ks.length := by simp; omega
  refine ⟨by have := h.1; omega, ?_⟩
  rcases h.2 with rfl | ⟨b, o, rfl, hlt, hc⟩
  · left; simp
  · right
    refine ⟨b, o, rfl, hlt, fun j hj => ?_⟩
    rw [hc j (by omega), nth_take]
    simp at hj; omega
/-- where there is an element there is an address -/
theorem IntsIn.at_ {B : Nat} {w : World} {A : Option Addr} {ks : List Int} (h : IntsIn B w A ks) (hn : 0 < ks.length) :
    ∃ b o, A = some ⟨b, o, none⟩ ∧ b < B ∧ ∀ j, j < ks.length → w.cell? ⟨b, o + j, none⟩ = some (.int .i64 (nth ks j)) := by
  rcases h.2 with rfl | h
  · simp at hn
  · exact h

def wrap31 (n : Int) : Int := (n + 1073741824) % 2147483648 - 1073741824
theorem wrap31_eq (n : Int) : wrap64 (wrap32 (n % 4294967296 * 2 % 4294967296) / 2) = wrap31 n := by
  unfold wrap64 wrap32 wrap31; omega
end Go.Proofs.Ytnobggabjpcbfaa

/-
  The evaluator of core terms in plain Lean: what the program's ceval and the document's answer both compute.
-/
set_option linter.unusedVariables false
set_option linter.unusedSimpArgs false
namespace Go.Proofs.Ytnobggabjpcbfaa

/-- a value -/
inductive PV where
  | int (n : Int)
  | blk (tag : Int) (kids : List PV)
  | fn (i : Nat)
  | ref (i : Nat)
instance : Inhabited PV := ⟨.int 0⟩
abbrev PEnv := List (Int × PV)
inductive Res where
  | val (v : PV)
  | raised (v : PV)
  | stuck
  | cut
/-- a value's key -/
def keyOf : PV → Option Int
  | .int n => some n
  | .blk t _ => some t
  | _ => none
def numOf : PV → Option Int
  | .int n => some n
  | _ => none

def lookup (e : PEnv) (x : Int) : Option PV := (e.find? (fun p => p.1 == x)).map (·.2)

/-- the place of a key among some, from 1 on; 0: none -/
def whichAt (keys : List Int) (key : Int) : Nat := match keys.findIdx? (· == key) with | some i => i + 1 | none => 0

/-- what is done with two ints -/
def doP (p a b : Int) : Option Int :=
  let a := wrap31 a
  let b := wrap31 b
  if (p = 4 ∨ p = 5) ∧ b = 0 then none
  else some (wrap31 (if p = 1 then a + b else if p = 2 then a - b else if p = 3 then a * b else if p = 4 then a.tdiv b else if p = 5 then a.tmod b
    else if p = 6 then (if a = b then 1 else 0) else if p = 7 then (if a ≠ b then 1 else 0) else if p = 8 then (if a < b then 1 else 0) else (if a ≤ b then 1 else 0)))

/-- how a run ends: kind, N, what was printed, steps -/
structure PEnd where
  kind : Int
  n : Int
  out : List Int
  steps : Nat
/-- fuel as a run takes it -/
def fuelOf (f : Int) : Nat := (min (max f 0) 1000000).toNat
end Go.Proofs.Ytnobggabjpcbfaa

/-
  Flat programs in plain Lean: what stands for one in memory, and the evaluator: what the program's feval and the document's answer both compute.
-/
set_option linter.unusedVariables false
set_option linter.unusedSimpArgs false
namespace Go.Proofs.Ytnobggabjpcbfaa
open Go.RowKit

/-- an atom -/
structure Atm where
  v : Bool
  n : Int
instance : Inhabited Atm := ⟨⟨false, 0⟩⟩
/-- a body: its binds, one after another, and what it answers -/
inductive Anf where
  | ret (a : Atm)
  | bind (x k n : Int) (ats : List Atm) (ks : List Int) (bl : List Anf) (rest : Anf)
instance : Inhabited Anf := ⟨.ret default⟩
/-- how many binds stand at the body's own level -/
def Anf.len : Anf → Nat
  | .ret _ => 0
  | .bind _ _ _ _ _ _ r => r.len + 1
def Anf.last : Anf → Atm
  | .ret a => a
  | .bind _ _ _ _ _ _ r => r.last
/-- the body without its first binds -/
def Anf.tail : Anf → Nat → Anf
  | a, 0 => a
  | .ret a, _ => .ret a
  | .bind _ _ _ _ _ _ r, i + 1 => r.tail i
theorem Anf.tail_zero (a : Anf) : a.tail 0 = a := by cases a <;> rfl
/-- where a bind is left, it stands there -/
theorem Anf.tail_bind : ∀ (a : Anf) (i : Nat), i < a.len → ∃ x k n ats ks bl, a.tail i = .bind x k n ats ks bl (a.tail (i + 1))
  | .ret a, i, h => absurd h (Nat.not_lt_zero _)
  | .bind x k n ats ks bl r, 0, _ => ⟨x, k, n, ats, ks, bl, by simp [Anf.tail, Anf.tail_zero]⟩
  | .bind x k n ats ks bl r, i + 1, h => r.tail_bind i (by simp only [Anf.len] at h; omega)
theorem Anf.tail_ret : ∀ (a : Anf) (i : Nat), a.len ≤ i → a.tail i = .ret a.last
  | .ret a, 0, _ => rfl
  | .ret a, _ + 1, _ => rfl
  | .bind .., 0, h => by simp [Anf.len] at h
  | .bind _ _ _ _ _ _ r, i + 1, h => r.tail_ret i (by simp only [Anf.len] at h; omega)

/-- a function, a flat program -/
structure FFun where
  env : Int
  param : Int
  body : Anf
instance : Inhabited FFun := ⟨⟨0, 0, default⟩⟩
structure FlatP where
  funs : List FFun
  main : Anf

/-- atoms in memory, in blocks below B: two cells each -/
def AtomsIn (B : Nat) (w : World) (A : Option Addr) (ats : List Atm) : Prop :=
  ats.length * 16 ≤ 140737488351232 ∧ (ats = [] ∨ ∃ b o, A = some ⟨b, o, none⟩ ∧ b < B ∧ ∀ j, j < ats.length → w.cell? ⟨b, o + j * 2, none⟩ = some (.bool (ats[j]?.getD default).v) ∧ w.cell? ⟨b, o + j * 2 + 1, none⟩ = some (.int .i64 (ats[j]?.getD default).n))
theorem AtomsIn.below {B : Nat} {w w' : World} {A : Option Addr} {ats : List Atm} (h : AtomsIn B w A ats) (hb : Below B w w') : AtomsIn B w' A ats := by
  refine ⟨h.1, h.2.imp id ?_⟩
  rintro ⟨b, o, rfl, hlt, hc⟩
  exact ⟨b, o, rfl, hlt, fun j hj => ⟨(hb.cell (p := ⟨b, o + j * 2, none⟩) hlt).trans (hc j hj).1, (hb.cell (p := ⟨b, o + j * 2 + 1, none⟩) hlt).trans (hc j hj).2⟩⟩
theorem AtomsIn.mono {B B' : Nat} {w : World} {A : Option Addr} {ats : List Atm} (h : AtomsIn B w A ats) (hB : B ≤ B') : AtomsIn B' w A ats := by
  refine ⟨h.1, h.2.imp id ?_⟩
  rintro ⟨b, o, rfl, hlt, hc⟩
  exact ⟨b, o, rfl, by omega, hc⟩

/-! ### the evaluator -/
/-- a run's state: steps that are left, closures that were made (a function's number, what is held), cells, what was printed, how many ints were asked for -/
structure FSt where
  left : Nat
  made : List (Int × List PV)
  cells : List PV
  out : List Int
  asked : Nat
abbrev FOut := Res × FSt
def FOut.andThen (o : FOut) (f : PV → FSt → FOut) : FOut :=
  match o with
  | (.val v, s) => f v s
  | (.raised v, s) => (.raised v, s)
  | (.stuck, s) => (.stuck, s)
  | (.cut, s) => (.cut, s)
def atomP (e : PEnv) (a : Atm) : Option PV := if a.v then lookup e a.n else some (.int a.n)
def atomsP (e : PEnv) : List Atm → Option (List PV)
  | [] => some []
  | a :: ats => match atomP e a with | some v => (atomsP e ats).map (v :: ·) | none => none
section
variable (funs : List FFun) (inp : List Int) (rec : Anf → PEnv → FSt → FOut)
def callF (f a : PV) (s : FSt) : FOut :=
  match f with
  | .fn i => if s.left = 0 then (.cut, s) else
      match s.made[i]? with
      | some c => (match funs[c.1.toNat]? with | some g => rec g.body [(g.param, a), (g.env, f)] { s with left := s.left - 1 } | none => (.stuck, s))
      | none => (.stuck, s)
  | _ => (.stuck, s)
def readF (s : FSt) : FOut :=
  if s.asked < inp.length then (.val (.int (wrap31 (nth inp s.asked))), { s with asked := s.asked + 1 })
  else (.raised (.int 1), { s with asked := s.asked + 1 })
def primF (p : Int) (l : List PV) (s : FSt) : FOut :=
  let a := l[0]?.getD default
  let b := l[1]?.getD default
  if p = 10 then (.val (.ref s.cells.length), { s with cells := s.cells ++ [a] })
  else if p = 11 then (match a with | .ref i => (.val (s.cells[i]?.getD default), s) | _ => (.stuck, s))
  else if p = 12 then (match a with | .ref i => (.val (.int 0), { s with cells := s.cells.set i b }) | _ => (.stuck, s))
  else if p = 13 then (match a with | .int n => (.val (.int 0), { s with out := s.out ++ [n] }) | _ => (.stuck, s))
  else if p = 14 then readF inp s
  else if p = 15 then (match keyOf a with | some _ => (.raised a, s) | none => (.stuck, s))
  else if p = 16 then (match callF funs rec a (.int 0) s with | (.raised v, s') => callF funs rec b v s' | o => o)
  else match a, b with
    | .int x, .int y => (match doP p x y with | some n => (.val (.int n), s) | none => (.raised (.int 0), s))
    | _, _ => (.stuck, s)
def fieldF (v : PV) (n : Int) (s : FSt) : FOut :=
  match v with
  | .blk _ l => if 0 ≤ n ∧ n < l.length then (.val (l[n.toNat]?.getD default), s) else (.stuck, s)
  | .fn i => if 1 ≤ n ∧ n ≤ (s.made[i]?.getD default).2.length then (.val ((s.made[i]?.getD default).2[(n - 1).toNat]?.getD default), s) else (.stuck, s)
  | _ => (.stuck, s)
/-- a right side, its atoms' values being known -/
def rhsF (k n : Int) (l : List PV) (ks : List Int) (bl : List Anf) (e : PEnv) (s : FSt) : FOut :=
  if k = 1 then (.val (l[0]?.getD default), s)
  else if k = 3 then (.val (.blk n l), s)
  else if k = 9 then (.val (.fn s.made.length), { s with made := s.made ++ [(n, l)] })
  else if k = 4 then fieldF (l[0]?.getD default) n s
  else if k = 6 then callF funs rec (l[0]?.getD default) (l[1]?.getD default) s
  else if k = 8 then (match keyOf (l[0]?.getD default) with | some key => rec (bl[whichAt ks key]?.getD default) e s | none => (.stuck, s))
  else primF funs inp rec n l s
/-- closures that know one another -/
def groupEnv : List Int → Nat → PEnv → PEnv
  | x :: _ :: _ :: ks, i, e => groupEnv ks (i + 1) ((x, .fn i) :: e)
  | _, _, e => e
def groupMade : List Int → List PV → List (Int × List PV)
  | _ :: f :: h :: ks, l => (f, l.take h.toNat) :: groupMade ks (l.drop h.toNat)
  | _, _ => []
/-- a bind, a step having been taken, and what stands behind it -/
def bindF (x k n : Int) (ats : List Atm) (ks : List Int) (bl : List Anf) (rest : Anf) (e : PEnv) (s : FSt) : FOut :=
  if k = 10 then
    let e' := groupEnv ks s.made.length e
    match atomsP e' ats with
    | some l => rec rest e' { s with made := s.made ++ groupMade ks l }
    | none => (.stuck, s)
  else match atomsP e ats with
    | some l => FOut.andThen (rhsF funs inp rec k n l ks bl e s) fun v s => rec rest ((x, v) :: e) s
    | none => (.stuck, s)
end
/-- a body: n bounds how deep the evaluation goes -/
def evF (funs : List FFun) (inp : List Int) : Nat → Anf → PEnv → FSt → FOut
  | 0, _, _, s => (.cut, s)
  | _ + 1, .ret a, e, s => (match atomP e a with | some v => (.val v, s) | none => (.stuck, s))
  | m + 1, .bind x k n ats ks bl rest, e, s => if s.left = 0 then (.cut, s) else bindF funs inp (evF funs inp m) x k n ats ks bl rest e { s with left := s.left - 1 }
def endF (fuel : Nat) : FOut → PEnd
  | (.val _, s) => ⟨1, 0, s.out, fuel - s.left⟩
  | (.raised v, s) => if 0 ≤ (keyOf v).getD 0 then ⟨2, (keyOf v).getD 0, s.out, fuel - s.left⟩ else ⟨4, 0, s.out, fuel - s.left⟩
  | (.stuck, s) => ⟨4, 0, s.out, fuel - s.left⟩
  | (.cut, s) => ⟨3, 0, s.out, fuel - s.left⟩
def initF (fuel : Nat) : FSt := ⟨fuel, [], [], [], 0⟩
def runF (p : FlatP) (inp : List Int) (f : Int) : FOut := evF p.funs (inp.take 4096) (fuelOf f + 1) p.main [] (initF (fuelOf f))
end Go.Proofs.Ytnobggabjpcbfaa

/-
  The plain evaluator of flat programs: what a run's state may become.
-/
set_option linter.unusedVariables false
set_option linter.unusedSimpArgs false
namespace Go.Proofs.Ytnobggabjpcbfaa

/-- what a state may become -/
structure LeF (s s' : FSt) (k : Nat := 0) : Prop where
  left : s'.left ≤ s.left
  out : s'.out.length + s'.left ≤ s.out.length + s.left + k
  pre : s.out <+: s'.out
  asked : s.asked ≤ s'.asked
theorem LeF.refl (s : FSt) (k : Nat) : LeF s s k := ⟨Nat.le_refl _, by omega, List.prefix_refl _, Nat.le_refl _⟩
theorem LeF.trans {a b c : FSt} {k l : Nat} (h : LeF a b k) (h' : LeF b c l) : LeF a c (k + l) := ⟨Nat.le_trans h'.left h.left, by have := h.out; have := h'.out; omega, h.pre.trans h'.pre, Nat.le_trans h.asked h'.asked⟩
theorem LeF.mono {a b : FSt} {k l : Nat} (h : LeF a b k) (hkl : k ≤ l) : LeF a b l := ⟨h.left, by have := h.out; omega, h.pre, h.asked⟩
theorem andThenF_le {s : FSt} {o : FOut} {f : PV → FSt → FOut} {k l : Nat} (h : LeF s o.2 l) (hf : ∀ v s', LeF s' (f v s').2 k) : LeF s (FOut.andThen o f).2 (l + k) := by
  obtain ⟨r, s'⟩ := o
  cases r
  · exact h.trans (hf _ _)
  all_goals exact h.mono (by omega)
section
variable {funs : List FFun} {inp : List Int} {rec : Anf → PEnv → FSt → FOut} (hrec : ∀ t e s, LeF s (rec t e s).2)
include hrec
theorem callF_le (f a : PV) (s : FSt) : LeF s (callF funs rec f a s).2 := by
  unfold callF
  split
  · split
    · exact LeF.refl _ _
    · split
      · split
        · have h := hrec (‹FFun›).body [((‹FFun›).param, a), ((‹FFun›).env, .fn ‹Nat›)] { s with left := s.left - 1 }
          exact ⟨Nat.le_trans h.left (by simp), by have := h.out; simp at this ⊢; omega, h.pre, h.asked⟩
        · exact LeF.refl _ _
      · exact LeF.refl _ _
  · exact LeF.refl _ _
theorem primF_le (p : Int) (l : List PV) (s : FSt) : LeF s (primF funs inp rec p l s).2 1 := by
  unfold primF
  simp only []
  split
  · exact ⟨Nat.le_refl _, Nat.le_add_right _ _, List.prefix_refl _, Nat.le_refl _⟩
  split
  · split <;> exact LeF.refl _ _
  split
  · split
    · exact ⟨Nat.le_refl _, Nat.le_add_right _ _, List.prefix_refl _, Nat.le_refl _⟩
    · exact LeF.refl _ _
  split
  · split
    · exact ⟨Nat.le_refl _, by simp; omega, List.prefix_append _ _, Nat.le_refl _⟩
    · exact LeF.refl _ _
  split
  · unfold readF
    split <;> exact ⟨Nat.le_refl _, Nat.le_add_right _ _, List.prefix_refl _, Nat.le_succ _⟩
  split
  · split <;> exact LeF.refl _ _
  split
  · have h := callF_le (funs := funs) hrec (l[0]?.getD default) (.int 0) s
    split
    · rename_i v s' heq
      rw [heq] at h
      exact (h.trans (callF_le hrec _ _ _)).mono (by omega)
    · exact h.mono (by omega)
  split
  · split <;> exact LeF.refl _ _
  · exact LeF.refl _ _
omit hrec in
theorem fieldF_same (v : PV) (n : Int) (s : FSt) : (fieldF v n s).2 = s := by
  unfold fieldF
  split
  · split <;> rfl
  · split <;> rfl
  · rfl
theorem rhsF_le (k n : Int) (l : List PV) (ks : List Int) (bl : List Anf) (e : PEnv) (s : FSt) : LeF s (rhsF funs inp rec k n l ks bl e s).2 1 := by
  unfold rhsF
  split
  · exact LeF.refl _ _
  split
  · exact LeF.refl _ _
  split
  · exact ⟨Nat.le_refl _, Nat.le_add_right _ _, List.prefix_refl _, Nat.le_refl _⟩
  split
  · rw [fieldF_same]; exact LeF.refl _ _
  split
  · exact (callF_le hrec _ _ _).mono (by omega)
  split
  · split
    · exact (hrec _ _ _).mono (by omega)
    · exact LeF.refl _ _
  · exact primF_le hrec _ _ _
theorem bindF_le (x k n : Int) (ats : List Atm) (ks : List Int) (bl : List Anf) (rest : Anf) (e : PEnv) (s : FSt) : LeF s (bindF funs inp rec x k n ats ks bl rest e s).2 1 := by
  unfold bindF
  split
  · simp only []
    split
    · rename_i l _
      have h := hrec rest (groupEnv ks s.made.length e) { s with made := s.made ++ groupMade ks l }
      exact ⟨h.left, by have := h.out; simp at this ⊢; omega, h.pre, h.asked⟩
    · exact LeF.refl _ _
  · split
    · exact andThenF_le (l := 1) (k := 0) (rhsF_le hrec _ _ _ _ _ _ _) (fun v s' => hrec _ _ _)
    · exact LeF.refl _ _
end
theorem evF_le (funs : List FFun) (inp : List Int) : ∀ (n : Nat) (t : Anf) (e : PEnv) (s : FSt), LeF s (evF funs inp n t e s).2
  | 0, _, _, s => LeF.refl _ _
  | n + 1, .ret a, e, s => by
    unfold evF
    split <;> exact LeF.refl _ _
  | m + 1, .bind x k n ats ks bl rest, e, s => by
    unfold evF
    split
    · exact LeF.refl _ _
    · have h := bindF_le (funs := funs) (inp := inp) (evF_le funs inp m) x k n ats ks bl rest e { s with left := s.left - 1 }
      exact ⟨Nat.le_trans h.left (by simp), by have := h.out; simp at this ⊢; omega, h.pre, h.asked⟩
end Go.Proofs.Ytnobggabjpcbfaa

/-
  Flat programs in memory.
-/
set_option linter.unusedVariables false
set_option linter.unusedSimpArgs false
namespace Go.Proofs.Ytnobggabjpcbfaa
open Go.RowKit

/-- a body's binds from number i on, in the row at ⟨b, o⟩, six cells each -/
inductive AnfAt (B : Nat) (w : World) : Nat → Nat → Nat → Anf → Prop
  | ret (b o i : Nat) (a : Atm) : AnfAt B w b o i (.ret a)
  | bind {b o i : Nat} {x k n : Int} {ats : List Atm} {ks : List Int} {bl : List Anf} {rest : Anf} {Aa Ak Al : Option Addr} {ca ck cl bb oo : Nat} {AB : Nat → Option Addr} {CB BB OO : Nat → Nat} (hb : b < B)
      (c0 : w.cell? ⟨b, o + i * 6, none⟩ = some (.int .i64 x)) (c1 : w.cell? ⟨b, o + i * 6 + 1, none⟩ = some (.int .i64 k)) (c2 : w.cell? ⟨b, o + i * 6 + 2, none⟩ = some (.int .i64 n))
      (c3 : w.cell? ⟨b, o + i * 6 + 3, none⟩ = some (.slice Aa ats.length ca)) (c4 : w.cell? ⟨b, o + i * 6 + 4, none⟩ = some (.slice Ak ks.length ck)) (c5 : w.cell? ⟨b, o + i * 6 + 5, none⟩ = some (.slice Al bl.length cl))
      (ha : AtomsIn B w Aa ats) (hac : ats.length ≤ ca) (hk : IntsIn B w Ak ks) (hkc : ks.length ≤ ck) (hlc : bl.length ≤ cl) (hl8 : bl.length * 40 ≤ 140737488351232) (hA : 0 < bl.length → Al = some ⟨bb, oo, none⟩ ∧ bb < B)
      (d0 : ∀ j (h : j < bl.length), w.cell? ⟨bb, oo + j * 3, none⟩ = some (.slice (AB j) bl[j].len (CB j))) (d1 : ∀ j (h : j < bl.length), w.cell? ⟨bb, oo + j * 3 + 1, none⟩ = some (.bool bl[j].last.v)) (d2 : ∀ j (h : j < bl.length), w.cell? ⟨bb, oo + j * 3 + 2, none⟩ = some (.int .i64 bl[j].last.n))
      (hs : ∀ j (h : j < bl.length), bl[j].len ≤ CB j ∧ bl[j].len * 96 ≤ 140737488351232 ∧ (0 < bl[j].len → AB j = some ⟨BB j, OO j, none⟩)) (hsub : ∀ j (h : j < bl.length), AnfAt B w (BB j) (OO j) 0 bl[j])
      (hr : AnfAt B w b o (i + 1) rest) : AnfAt B w b o i (.bind x k n ats ks bl rest)
theorem AnfAt.kept {B : Nat} {w w' : World} (hb : Below B w w') {b o i : Nat} {t : Anf} (h : AnfAt B w b o i t) : AnfAt B w' b o i t := by
  induction h with
  | ret b o i a => exact .ret b o i a
  | bind hlt c0 c1 c2 c3 c4 c5 ha hac hk hkc hlc hl8 hA d0 d1 d2 hs hsub hr ih1 ih2 =>
    refine .bind hlt ((hb.cell (p := ⟨_, _, none⟩) hlt).trans c0) ((hb.cell (p := ⟨_, _, none⟩) hlt).trans c1) ((hb.cell (p := ⟨_, _, none⟩) hlt).trans c2) ((hb.cell (p := ⟨_, _, none⟩) hlt).trans c3) ((hb.cell (p := ⟨_, _, none⟩) hlt).trans c4) ((hb.cell (p := ⟨_, _, none⟩) hlt).trans c5)
      (ha.below hb) hac (hk.below hb) hkc hlc hl8 hA ?_ ?_ ?_ hs ih1 ih2
    · exact fun j hj => (hb.cell (p := ⟨_, _, none⟩) (hA (by omega)).2).trans (d0 j hj)
    · exact fun j hj => (hb.cell (p := ⟨_, _, none⟩) (hA (by omega)).2).trans (d1 j hj)
    · exact fun j hj => (hb.cell (p := ⟨_, _, none⟩) (hA (by omega)).2).trans (d2 j hj)
theorem AnfAt.mono {B B' : Nat} (hB : B ≤ B') {w : World} {b o i : Nat} {t : Anf} (h : AnfAt B w b o i t) : AnfAt B' w b o i t := by
  induction h with
  | ret b o i a => exact .ret b o i a
  | bind hlt c0 c1 c2 c3 c4 c5 ha hac hk hkc hlc hl8 hA d0 d1 d2 hs hsub hr ih1 ih2 =>
    exact .bind (Nat.lt_of_lt_of_le hlt hB) c0 c1 c2 c3 c4 c5 (ha.mono hB) hac (hk.mono hB) hkc hlc hl8 (fun h => ⟨(hA h).1, Nat.lt_of_lt_of_le (hA h).2 hB⟩) d0 d1 d2 hs ih1 ih2
/-- a body as a value: three cells -/
def BodyIn (B : Nat) (w : World) (t : Anf) (v : Array Value) : Prop :=
  ∃ A c b o, v = #[.slice A t.len c, .bool t.last.v, .int .i64 t.last.n] ∧ t.len ≤ c ∧ t.len * 96 ≤ 140737488351232 ∧ (0 < t.len → A = some ⟨b, o, none⟩) ∧ AnfAt B w b o 0 t
theorem BodyIn.kept {B : Nat} {w w' : World} (hb : Below B w w') {t : Anf} {v : Array Value} (h : BodyIn B w t v) : BodyIn B w' t v := by
  obtain ⟨A, c, b, o, h1, h2, h3, h4, h5⟩ := h
  exact ⟨A, c, b, o, h1, h2, h3, h4, h5.kept hb⟩
theorem BodyIn.mono {B B' : Nat} (hB : B ≤ B') {w : World} {t : Anf} {v : Array Value} (h : BodyIn B w t v) : BodyIn B' w t v := by
  obtain ⟨A, c, b, o, h1, h2, h3, h4, h5⟩ := h
  exact ⟨A, c, b, o, h1, h2, h3, h4, h5.mono hB⟩
/-- what stands from a bind on -/
theorem AnfAt.from_ {B : Nat} {w : World} {b o : Nat} : ∀ {t : Anf} {i : Nat}, AnfAt B w b o i t → ∀ j, AnfAt B w b o (i + j) (t.tail j) := by
  intro t i h j
  induction j generalizing t i with
  | zero => rw [Anf.tail_zero]; exact h
  | succ j ih =>
    cases h with
    | ret a => exact .ret _ _ _ _
    | bind hlt c0 c1 c2 c3 c4 c5 ha hac hk hkc hlc hl8 hA d0 d1 d2 hs hsub hr =>
      have := ih hr
      rw [show i + 1 + j = i + (j + 1) by omega] at this
      exact this
/-- a flat program as a value: four cells; its functions: five cells each -/
def FlatIn (B : Nat) (w : World) (p : FlatP) (v : Array Value) : Prop :=
  ∃ Af cf b o m0 m1 m2, v = #[.slice Af p.funs.length cf, m0, m1, m2] ∧ p.funs.length ≤ cf ∧ p.funs.length * 56 ≤ 140737488351232 ∧ BodyIn B w p.main #[m0, m1, m2] ∧ (0 < p.funs.length → Af = some ⟨b, o, none⟩ ∧ b < B) ∧
    ∀ j (h : j < p.funs.length), ∃ g0 g1 g2, w.cell? ⟨b, o + j * 5, none⟩ = some (.int .i64 p.funs[j].env) ∧ w.cell? ⟨b, o + j * 5 + 1, none⟩ = some (.int .i64 p.funs[j].param) ∧ w.cell? ⟨b, o + j * 5 + 2, none⟩ = some g0 ∧ w.cell? ⟨b, o + j * 5 + 3, none⟩ = some g1 ∧ w.cell? ⟨b, o + j * 5 + 4, none⟩ = some g2 ∧ BodyIn B w p.funs[j].body #[g0, g1, g2]
theorem FlatIn.kept {B : Nat} {w w' : World} (hb : Below B w w') {p : FlatP} {v : Array Value} (h : FlatIn B w p v) : FlatIn B w' p v := by
  obtain ⟨Af, cf, b, o, m0, m1, m2, h1, h2, h3, h4, h5, h6⟩ := h
  refine ⟨Af, cf, b, o, m0, m1, m2, h1, h2, h3, h4.kept hb, h5, fun j hj => ?_⟩
  obtain ⟨g0, g1, g2, e0, e1, e2, e3, e4, e5⟩ := h6 j hj
  have hlt := (h5 (by omega)).2
  exact ⟨g0, g1, g2, (hb.cell (p := ⟨_, _, none⟩) hlt).trans e0, (hb.cell (p := ⟨_, _, none⟩) hlt).trans e1, (hb.cell (p := ⟨_, _, none⟩) hlt).trans e2, (hb.cell (p := ⟨_, _, none⟩) hlt).trans e3, (hb.cell (p := ⟨_, _, none⟩) hlt).trans e4, e5.kept hb⟩
theorem FlatIn.mono {B B' : Nat} (hB : B ≤ B') {w : World} {p : FlatP} {v : Array Value} (h : FlatIn B w p v) : FlatIn B' w p v := by
  obtain ⟨Af, cf, b, o, m0, m1, m2, h1, h2, h3, h4, h5, h6⟩ := h
  refine ⟨Af, cf, b, o, m0, m1, m2, h1, h2, h3, h4.mono hB, fun h => ⟨(h5 h).1, Nat.lt_of_lt_of_le (h5 h).2 hB⟩, fun j hj => ?_⟩
  obtain ⟨g0, g1, g2, e0, e1, e2, e3, e4, e5⟩ := h6 j hj
  exact ⟨g0, g1, g2, e0, e1, e2, e3, e4, e5.mono hB⟩
end Go.Proofs.Ytnobggabjpcbfaa

/-
  Flat programs: how many parts a body has, as the statements' Nodes counts them (plain).
-/
set_option linter.unusedVariables false
set_option linter.unusedSimpArgs false
namespace Go.Proofs.Ytnobggabjpcbfaa

mutual
/-- what Nodes has counted behind a chain of binds, some having been counted already -/
def nodesA : Anf → Int → Int → Int
  | .ret _, _, n => n
  | .bind _ _ _ ats ks bl rest, most, n => if n < most then nodesA rest most (nodesLA bl most (n + (1 + ats.length + ks.length))) else n
def nodesLA : List Anf → Int → Int → Int
  | [], _, n => n
  | c :: cs, most, n => if n < most then nodesLA cs most (n + nodesA c (most - n) 1) else n
end
mutual
theorem nodesA_ge : ∀ (t : Anf) (most n : Int), n ≤ nodesA t most n
  | .ret _, _, n => by simp [nodesA]
  | .bind _ _ _ ats ks bl rest, most, n => by
    unfold nodesA
    split
    · have h1 := nodesLA_ge bl most (n + (1 + ats.length + ks.length))
      have h2 := nodesA_ge rest most (nodesLA bl most (n + (1 + ats.length + ks.length)))
      omega
    · omega
theorem nodesLA_ge : ∀ (l : List Anf) (most n : Int), n ≤ nodesLA l most n
  | [], _, n => by simp [nodesLA]
  | c :: cs, most, n => by
    unfold nodesLA
    split
    · have h1 := nodesA_ge c (most - n) 1
      have h2 := nodesLA_ge cs most (n + nodesA c (most - n) 1)
      omega
    · omega
end
mutual
/-- all parts of a body -/
def partsA : Anf → Nat
  | .ret _ => 0
  | .bind _ _ _ ats ks bl rest => 1 + ats.length + ks.length + partsLA bl + partsA rest
def partsLA : List Anf → Nat
  | [] => 0
  | c :: cs => 1 + partsA c + partsLA cs
end
mutual
/-- a count that stays below the bound is the whole count -/
theorem nodesA_all : ∀ (t : Anf) (most n : Int), nodesA t most n < most → nodesA t most n = n + partsA t
  | .ret _, most, n, _ => by simp [nodesA, partsA]
  | .bind _ _ _ ats ks bl rest, most, n, h => by
    unfold nodesA at h ⊢
    split at h
    · rename_i hn
      rw [if_pos hn]
      have h1 := nodesA_ge rest most (nodesLA bl most (n + (1 + ats.length + ks.length)))
      have h2 := nodesLA_all bl most (n + (1 + ats.length + ks.length)) (by omega)
      rw [nodesA_all rest most _ h, h2]
      simp only [partsA]
      omega
    · omega
theorem nodesLA_all : ∀ (l : List Anf) (most n : Int), nodesLA l most n < most → nodesLA l most n = n + partsLA l
  | [], most, n, _ => by simp [nodesLA, partsLA]
  | c :: cs, most, n, h => by
    unfold nodesLA at h ⊢
    split at h
    · rename_i hn
      rw [if_pos hn]
      have h1 := nodesLA_ge cs most (n + nodesA c (most - n) 1)
      have h2 := nodesA_all c (most - n) 1 (by omega)
      rw [nodesLA_all cs most _ h, h2]
      simp only [partsLA]
      omega
    · omega
end
end Go.Proofs.Ytnobggabjpcbfaa

/-
  Flat programs: a count of parts is no great number.
-/
set_option linter.unusedVariables false
set_option linter.unusedSimpArgs false
namespace Go.Proofs.Ytnobggabjpcbfaa
open Go.RowKit

theorem nodesLA_le {M : Int} (hM : 1 ≤ M) : ∀ (l : List Anf), (∀ c ∈ l, ∀ most n : Int, nodesA c most n ≤ max n (most + M)) → ∀ most n : Int, nodesLA l most n ≤ max n (most + M)
  | [], _, most, n => by simp only [nodesLA]; omega
  | c :: cs, h, most, n => by
    unfold nodesLA
    split
    · rename_i hn
      have h1 := h c (by simp) (most - n) 1
      have h2 := nodesLA_le hM cs (fun c' hc => h c' (by simp [hc])) most (n + nodesA c (most - n) 1)
      omega
    · omega
theorem nodesA_le {B : Nat} {w : World} {b o i : Nat} {t : Anf} (h : AnfAt B w b o i t) : ∀ most n : Int, nodesA t most n ≤ max n (most + 27000000000000) := by
  induction h with
  | ret b o i a => intro most n; simp only [nodesA]; omega
  | @bind b o i x k n ats ks bl rest Aa Ak Al ca ck cl bb oo AB CB BB OO hlt c0 c1 c2 c3 c4 c5 ha hac hk hkc hlc hl8 hA d0 d1 d2 hs hsub hr ih1 ih2 =>
    intro most n
    have hal := ha.1
    have hkl := hk.1
    unfold nodesA
    split
    · rename_i hn
      have h1 := nodesLA_le (M := 27000000000000) (by decide) bl (fun c hc => by
        obtain ⟨j, hj, rfl⟩ := List.getElem_of_mem hc
        exact ih1 j hj) most (n + (1 + ats.length + ks.length))
      have h2 := ih2 most (nodesLA bl most (n + (1 + ats.length + ks.length)))
      omega
    · omega
/-- a bind's blocks are smaller -/
theorem size_tail : ∀ (t : Anf) (i : Nat), SizeOf.sizeOf (t.tail i) ≤ SizeOf.sizeOf t
  | .ret a, 0 => Nat.le_refl _
  | .ret a, _ + 1 => Nat.le_refl _
  | .bind .., 0 => Nat.le_refl _
  | .bind x k n ats ks bl r, i + 1 => by
    have := size_tail r i
    simp only [Anf.tail, Anf.bind.sizeOf_spec]
    omega
theorem size_block {t : Anf} {i : Nat} {x k n : Int} {ats : List Atm} {ks : List Int} {bl : List Anf} {rest c : Anf} (h : t.tail i = .bind x k n ats ks bl rest) (hc : c ∈ bl) : SizeOf.sizeOf c < SizeOf.sizeOf t := by
  have h1 := size_tail t i
  rw [h] at h1
  have h2 := List.sizeOf_lt_of_mem hc
  simp only [Anf.bind.sizeOf_spec] at h1
  omega
/-- a count's next step: a bind -/
theorem nodesA_step {t : Anf} {i : Nat} {x k m : Int} {ats : List Atm} {ks : List Int} {bl : List Anf} (h : t.tail i = .bind x k m ats ks bl (t.tail (i + 1))) {most n : Int} (hn : n < most) : nodesA (t.tail i) most n = nodesA (t.tail (i + 1)) most (nodesLA bl most (n + (1 + ats.length + ks.length))) := by
  rw [h, nodesA, if_pos hn]
theorem nodesA_stop {t : Anf} {most n : Int} (hn : ¬ n < most) : nodesA t most n = n := by
  cases t with
  | ret a => rfl
  | bind x k m ats ks bl rest => rw [nodesA, if_neg hn]
theorem nodesLA_step {l : List Anf} {j : Nat} (hj : j < l.length) {most n : Int} (hn : n < most) : nodesLA (l.drop j) most n = nodesLA (l.drop (j + 1)) most (n + nodesA l[j] (most - n) 1) := by
  rw [List.drop_eq_getElem_cons hj, nodesLA, if_pos hn]
theorem nodesLA_stop {l : List Anf} {most n : Int} (hn : ¬ n < most) : nodesLA l most n = n := by
  cases l with
  | nil => rfl
  | cons c cs => rw [nodesLA, if_neg hn]
end Go.Proofs.Ytnobggabjpcbfaa

/-
  Flat programs in memory: a bind opened.
-/
set_option linter.unusedVariables false
set_option linter.unusedSimpArgs false
namespace Go.Proofs.Ytnobggabjpcbfaa
open Go.RowKit

/-- a bind in memory: its six cells, its lists, its blocks -/
structure BindIn (B : Nat) (w : World) (b o : Nat) (x k n : Int) (ats : List Atm) (ks : List Int) (bl : List Anf) (Aa : Option Addr) (ca : Nat) (Ak : Option Addr) (ck : Nat) (Al : Option Addr) (cl : Nat) : Prop where
  lt : b < B
  c0 : w.cell? ⟨b, o, none⟩ = some (.int .i64 x)
  c1 : w.cell? ⟨b, o + 1, none⟩ = some (.int .i64 k)
  c2 : w.cell? ⟨b, o + 2, none⟩ = some (.int .i64 n)
  c3 : w.cell? ⟨b, o + 3, none⟩ = some (.slice Aa ats.length ca)
  c4 : w.cell? ⟨b, o + 4, none⟩ = some (.slice Ak ks.length ck)
  c5 : w.cell? ⟨b, o + 5, none⟩ = some (.slice Al bl.length cl)
  ha : AtomsIn B w Aa ats
  hac : ats.length ≤ ca
  hk : IntsIn B w Ak ks
  hkc : ks.length ≤ ck
  hlc : bl.length ≤ cl
  hl8 : bl.length * 40 ≤ 140737488351232
  blk : ∀ j (h : j < bl.length), ∃ bb oo g0 g1 g2, Al = some ⟨bb, oo, none⟩ ∧ bb < B ∧ w.cell? ⟨bb, oo + j * 3, none⟩ = some g0 ∧ w.cell? ⟨bb, oo + j * 3 + 1, none⟩ = some g1 ∧ w.cell? ⟨bb, oo + j * 3 + 2, none⟩ = some g2 ∧ BodyIn B w bl[j] #[g0, g1, g2]
theorem AnfAt.bind_ {B : Nat} {w : World} {b o i : Nat} {x k n : Int} {ats : List Atm} {ks : List Int} {bl : List Anf} {rest : Anf} (h : AnfAt B w b o i (.bind x k n ats ks bl rest)) : ∃ Aa ca Ak ck Al cl, BindIn B w b (o + i * 6) x k n ats ks bl Aa ca Ak ck Al cl := by
  cases h with
  | bind hlt c0 c1 c2 c3 c4 c5 ha hac hk hkc hlc hl8 hA d0 d1 d2 hs hsub hr =>
    refine ⟨_, _, _, _, _, _, ⟨hlt, c0, c1, c2, c3, c4, c5, ha, hac, hk, hkc, hlc, hl8, fun j hj => ?_⟩⟩
    obtain ⟨h1, h2⟩ := hA (by omega)
    obtain ⟨e1, e2, e3⟩ := hs j hj
    exact ⟨_, _, _, _, _, h1, h2, d0 j hj, d1 j hj, d2 j hj, _, _, _, _, rfl, e1, e2, e3, hsub j hj⟩
/-- the bind at a place of a body -/
theorem BodyIn.at_ {B : Nat} {w : World} {t : Anf} {v : Array Value} (h : BodyIn B w t v) : ∃ A c b o, v = #[.slice A t.len c, .bool t.last.v, .int .i64 t.last.n] ∧ t.len ≤ c ∧ t.len * 96 ≤ 140737488351232 ∧ (0 < t.len → A = some ⟨b, o, none⟩) ∧
    ∀ i, i < t.len → ∃ x k n ats ks bl Aa ca Ak ck Al cl, t.tail i = .bind x k n ats ks bl (t.tail (i + 1)) ∧ BindIn B w b (o + i * 6) x k n ats ks bl Aa ca Ak ck Al cl := by
  obtain ⟨A, c, b, o, h1, h2, h3, h4, h5⟩ := h
  refine ⟨A, c, b, o, h1, h2, h3, h4, fun i hi => ?_⟩
  obtain ⟨x, k, n, ats, ks, bl, he⟩ := t.tail_bind i hi
  have h6 := h5.from_ i
  rw [he, Nat.zero_add] at h6
  obtain ⟨Aa, ca, Ak, ck, Al, cl, h7⟩ := h6.bind_
  exact ⟨x, k, n, ats, ks, bl, Aa, ca, Ak, ck, Al, cl, he, h7⟩
end Go.Proofs.Ytnobggabjpcbfaa

/-
  Flat programs: the plain law of a function that is not called.
-/
set_option linter.unusedVariables false
set_option linter.unusedSimpArgs false
namespace Go.Proofs.Ytnobggabjpcbfaa

end Go.Proofs.Ytnobggabjpcbfaa

/-
  What clos.Right computes, in plain Lean; which flat programs may be.
-/
set_option linter.unusedVariables false
set_option linter.unusedSimpArgs false
namespace Go.Proofs.Ytnobggabjpcbfaa

def inB (n a b : Int) : Bool := decide (a ≤ n) && decide (n ≤ b)
theorem inB_iff {n a b : Int} : inB n a b = true ↔ a ≤ n ∧ n ≤ b := by simp [inB]
def twoF (p : Int) : Bool := decide (p ≤ 9) || decide (p = 12) || decide (p = 16)
def atomB (a : Atm) : Bool := a.v || inB a.n (-1073741824) 1073741823
def varB (n : Int) : Bool := inB n 0 65535
/-- the variables of a group, the functions, what they hold -/
def groupV : List Int → List Int
  | [] => []
  | [x] => [x]
  | [x, _] => [x]
  | x :: _ :: _ :: ks => x :: groupV ks
def groupF : List Int → List Int
  | _ :: f :: _ :: ks => f :: groupF ks
  | [_, f] => [f]
  | _ => []
def groupH : List Int → List Int
  | _ :: _ :: h :: ks => h :: groupH ks
  | _ => []
/-- which fields a kind has -/
def hasN (k : Int) : Bool := k == 2 || k == 3 || k == 4 || k == 9
def hasA (k : Int) : Bool := k == 1 || k == 6 || k == 2 || k == 3 || k == 4 || k == 9 || k == 8 || k == 10
def hasK (k : Int) : Bool := k == 8 || k == 10
def hasB (k : Int) : Bool := k == 8
def bareB (k n : Int) (na nk nb : Nat) : Bool := hasA k && (hasN k || n == 0) && (hasA k || na == 0) && (hasK k || nk == 0) && (hasB k || nb == 0)
def numberB (nf : Nat) (x k n : Int) (ats : List Atm) (ks : List Int) : Bool :=
  varB x && (k != 10 || (groupV ks).all varB) && (if k = 3 then inB n 0 1023 else if k = 4 then inB n 0 255 else if k = 9 then inB n 0 ((nf : Int) - 1) else true) && ats.all atomB
def sumL : List Int → Int
  | [] => 0
  | x :: l => x + sumL l
def countB (x k n : Int) (na : Nat) (ks : List Int) (nb : Nat) : Bool :=
  if k = 6 then na == 2
  else if k = 2 ∧ twoF n = true then na == 2
  else if k = 3 then inB na 1 8
  else if k = 9 then decide ((na : Int) ≤ 255)
  else if k = 8 then na == 1 && nb == ks.length + 1
  else if k = 10 then (groupH ks).all (fun h => inB h 0 255) && decide (3 ≤ ks.length) && ks.length % 3 == 0 && sumL (groupH ks) == (na : Int) && nth ks 0 == x
  else na == 1
def risingB (l : List Int) : Bool := l.all (fun h => inB h (-1073741824) 1073741823) && (List.range l.length).all (fun i => i == 0 || decide (nth l (i - 1) < nth l i))
def funsB (nf : Nat) (ks : List Int) : Bool := (groupF ks).all (fun f => inB f 0 ((nf : Int) - 1))
/-- what is wrong with a bind, but for its blocks -/
def bindE (nf : Nat) (x k n : Int) (ats : List Atm) (ks : List Int) (nb : Nat) : Int :=
  if bareB k n ats.length ks.length nb = false then 29
  else if numberB nf x k n ats ks = false then 2
  else if k = 2 ∧ inB n 1 16 = false then 28
  else if countB x k n ats.length ks nb = false then 19
  else if k = 10 ∧ funsB nf ks = false then 2
  else if k = 8 ∧ risingB ks = false then 3
  else 0
def asksB (kn : List Int) (a : Atm) : Bool := !a.v || kn.contains a.n
mutual
/-- what is wrong with a body, some variables being known -/
def bodyE (nf : Nat) (kn : List Int) : Anf → Int
  | .ret a => if atomB a = false then 2 else if asksB kn a = false then 16 else 0
  | .bind x k n ats ks bl rest =>
    if bindE nf x k n ats ks bl.length ≠ 0 then bindE nf x k n ats ks bl.length
    else if ats.all (asksB (if k = 10 then groupV ks ++ kn else kn)) = false then 16
    else if blocksE nf (if k = 10 then groupV ks ++ kn else kn) bl ≠ 0 then blocksE nf (if k = 10 then groupV ks ++ kn else kn) bl
    else bodyE nf (if k = 10 then groupV ks ++ kn else x :: kn) rest
def blocksE (nf : Nat) (kn : List Int) : List Anf → Int
  | [] => 0
  | c :: cs => if bodyE nf kn c ≠ 0 then bodyE nf kn c else blocksE nf kn cs
end
mutual
/-- binds in all blocks, at most some -/
def sizeA (most : Int) : Anf → Int → Int
  | .ret _, n => n
  | .bind _ _ _ _ _ bl r, n => let q := sizeL most bl n; if q.2 then q.1 else sizeA most r q.1
/-- the blocks of one bind: the count, and whether it came to its end early -/
def sizeL (most : Int) : List Anf → Int → Int × Bool
  | [], n => (n, false)
  | c :: cs, n => if n > most then (n, true) else sizeL most cs (n + sizeA most c c.len)
end
def sizeB (a : Anf) (most : Int) : Int := sizeA most a a.len
mutual
/-- how deep blocks stand in one another -/
def deepA : Anf → Nat → Int → Int
  | .ret _, _, n => n
  | .bind _ _ _ _ _ bl r, m, n => deepA r m (deepL bl m n)
def deepL : List Anf → Nat → Int → Int
  | [], _, n => n
  | c :: cs, 0, n => deepL cs 0 n
  | c :: cs, m + 1, n => deepL cs (m + 1) (max n (deepA c m 0 + 1))
end
def deepB (a : Anf) (most : Nat) : Int := deepA a most 0 + 1
def longB : List Anf → Int → Bool
  | [], _ => false
  | b :: bs, n => if n + sizeB b 65536 > 65536 ∨ deepB b 400 > 400 then true else longB bs (n + sizeB b 65536)
def funsE (nf : Nat) : List FFun → Int
  | [] => 0
  | g :: gs => if varB g.env = false ∨ varB g.param = false then 2 else if g.env = g.param then 9 else if bodyE nf [g.param, g.env] g.body ≠ 0 then bodyE nf [g.param, g.env] g.body else funsE nf gs
/-- **what clos.Right answers** -/
def rightC (p : FlatP) : Int :=
  if 1024 < p.funs.length then 6
  else if longB (p.funs.map (·.body) ++ [p.main]) 0 then 4
  else if funsE p.funs.length p.funs ≠ 0 then funsE p.funs.length p.funs
  else bodyE p.funs.length [] p.main

/-- a body that may be -/
inductive WfA (nf : Nat) : Anf → Prop
  | ret (a : Atm) : WfA nf (.ret a)
  | bind {x k n : Int} {ats : List Atm} {ks : List Int} {bl : List Anf} {rest : Anf} (he : bindE nf x k n ats ks bl.length = 0) (hb : ∀ c ∈ bl, WfA nf c) (hr : WfA nf rest) : WfA nf (.bind x k n ats ks bl rest)
theorem ite_zero {p : Prop} [Decidable p] {a b : Int} (h : (if p then a else b) = 0) (ha : p → a ≠ 0) : ¬ p ∧ b = 0 := by
  by_cases hp : p
  · rw [if_pos hp] at h; exact absurd h (ha hp)
  · rw [if_neg hp] at h; exact ⟨hp, h⟩
mutual
theorem wf_of_bodyE {nf : Nat} : ∀ (a : Anf) (kn : List Int), bodyE nf kn a = 0 → WfA nf a
  | .ret a, kn, _ => .ret a
  | .bind x k n ats ks bl rest, kn, h => by
    unfold bodyE at h
    obtain ⟨h1, h⟩ := ite_zero h (fun h => h)
    obtain ⟨h2, h⟩ := ite_zero h (fun _ => by decide)
    obtain ⟨h3, h⟩ := ite_zero h (fun h => h)
    exact .bind (by simpa using h1) (wf_of_blocksE bl _ (by simpa using h3)) (wf_of_bodyE rest _ h)
theorem wf_of_blocksE {nf : Nat} : ∀ (cs : List Anf) (kn : List Int), blocksE nf kn cs = 0 → ∀ c ∈ cs, WfA nf c
  | [], _, _ => fun c hc => by simp at hc
  | c :: cs, kn, h => by
    unfold blocksE at h
    obtain ⟨h1, h⟩ := ite_zero h (fun h => h)
    have h2 : WfA nf c := wf_of_bodyE c kn (by simpa using h1)
    have h3 := wf_of_blocksE cs kn h
    intro c' hc'
    rcases List.mem_cons.1 hc' with rfl | hc'
    · exact h2
    · exact h3 c' hc'
end
theorem wf_of_funsE {nf : Nat} : ∀ (gs : List FFun), funsE nf gs = 0 → ∀ g ∈ gs, WfA nf g.body
  | [], _ => fun c hc => by simp at hc
  | g :: gs, h => by
    unfold funsE at h
    obtain ⟨_, h⟩ := ite_zero h (fun _ => by decide)
    obtain ⟨_, h⟩ := ite_zero h (fun _ => by decide)
    obtain ⟨h1, h⟩ := ite_zero h (fun h => h)
    have h3 := wf_of_funsE gs h
    intro c' hc'
    rcases List.mem_cons.1 hc' with rfl | hc'
    · exact wf_of_bodyE _ _ (by simpa using h1)
    · exact h3 c' hc'
/-- **what a program is that may be** -/
theorem wf_of_rightC {p : FlatP} (h : rightC p = 0) : (∀ g ∈ p.funs, WfA p.funs.length g.body) ∧ WfA p.funs.length p.main := by
  unfold rightC at h
  obtain ⟨_, h⟩ := ite_zero h (fun _ => by decide)
  obtain ⟨_, h⟩ := ite_zero h (fun _ => by decide)
  obtain ⟨h1, h⟩ := ite_zero h (fun h => h)
  exact ⟨wf_of_funsE _ (by simpa using h1), wf_of_bodyE _ _ h⟩
/-! ### what a bind is that may be -/
structure BindOk (nf : Nat) (x k n : Int) (ats : List Atm) (ks : List Int) (nb : Nat) : Prop where
  bare : bareB k n ats.length ks.length nb = true
  number : numberB nf x k n ats ks = true
  prim : k = 2 → 1 ≤ n ∧ n ≤ 16
  count : countB x k n ats.length ks nb = true
  funs : k = 10 → funsB nf ks = true
theorem bindOk_of {nf : Nat} {x k n : Int} {ats : List Atm} {ks : List Int} {nb : Nat} (h : bindE nf x k n ats ks nb = 0) : BindOk nf x k n ats ks nb := by
  unfold bindE at h
  obtain ⟨h1, h⟩ := ite_zero h (fun _ => by decide)
  obtain ⟨h2, h⟩ := ite_zero h (fun _ => by decide)
  obtain ⟨h3, h⟩ := ite_zero h (fun _ => by decide)
  obtain ⟨h4, h⟩ := ite_zero h (fun _ => by decide)
  obtain ⟨h5, h⟩ := ite_zero h (fun _ => by decide)
  refine ⟨by simpa using h1, by simpa using h2, fun hk => ?_, by simpa using h4, fun hk => ?_⟩
  · exact inB_iff.1 (by simpa [hk] using h3)
  · simpa [hk] using h5
theorem BindOk.kind {nf : Nat} {x k n : Int} {ats : List Atm} {ks : List Int} {nb : Nat} (h : BindOk nf x k n ats ks nb) : k = 1 ∨ k = 2 ∨ k = 3 ∨ k = 4 ∨ k = 6 ∨ k = 8 ∨ k = 9 ∨ k = 10 := by
  have h1 := h.bare
  simp only [bareB, Bool.and_eq_true] at h1
  have h2 := h1.1.1.1.1
  simp [hasA] at h2
  omega
theorem BindOk.one {nf : Nat} {x k n : Int} {ats : List Atm} {ks : List Int} {nb : Nat} (h : BindOk nf x k n ats ks nb) (hk : k = 1 ∨ k = 4 ∨ k = 8) : ats.length = 1 := by
  have h1 := h.count
  unfold countB at h1
  rcases hk with rfl | rfl | rfl <;> simp at h1 <;> first | exact h1 | exact h1.1
theorem BindOk.app {nf : Nat} {x n : Int} {ats : List Atm} {ks : List Int} {nb : Nat} (h : BindOk nf x 6 n ats ks nb) : ats.length = 2 := by
  have h1 := h.count
  unfold countB at h1
  simpa using h1
theorem BindOk.primL {nf : Nat} {x n : Int} {ats : List Atm} {ks : List Int} {nb : Nat} (h : BindOk nf x 2 n ats ks nb) : ats.length = if twoF n then 2 else 1 := by
  have h1 := h.count
  unfold countB at h1
  cases ht : twoF n <;> simp [ht] at h1 ⊢ <;> exact h1
theorem BindOk.block {nf : Nat} {x n : Int} {ats : List Atm} {ks : List Int} {nb : Nat} (h : BindOk nf x 3 n ats ks nb) : 1 ≤ ats.length ∧ ats.length ≤ 8 := by
  have h1 := h.count
  unfold countB at h1
  simp [inB] at h1
  omega
theorem BindOk.close {nf : Nat} {x n : Int} {ats : List Atm} {ks : List Int} {nb : Nat} (h : BindOk nf x 9 n ats ks nb) : ats.length ≤ 255 ∧ 0 ≤ n ∧ n < nf := by
  have h1 := h.count
  unfold countB at h1
  simp at h1
  have h2 := h.number
  simp [numberB, inB] at h2
  omega
theorem BindOk.field {nf : Nat} {x n : Int} {ats : List Atm} {ks : List Int} {nb : Nat} (h : BindOk nf x 4 n ats ks nb) : 0 ≤ n ∧ n ≤ 255 := by
  have h2 := h.number
  simp [numberB, inB] at h2
  omega
theorem BindOk.switch {nf : Nat} {x n : Int} {ats : List Atm} {ks : List Int} {nb : Nat} (h : BindOk nf x 8 n ats ks nb) : nb = ks.length + 1 := by
  have h1 := h.count
  unfold countB at h1
  simp at h1
  exact h1.2
theorem BindOk.group {nf : Nat} {x n : Int} {ats : List Atm} {ks : List Int} {nb : Nat} (h : BindOk nf x 10 n ats ks nb) : (groupH ks).all (fun h => inB h 0 255) = true ∧ 3 ≤ ks.length ∧ ks.length % 3 = 0 ∧ sumL (groupH ks) = (ats.length : Int) ∧ (groupF ks).all (fun f => inB f 0 ((nf : Int) - 1)) = true := by
  have h1 := h.count
  unfold countB at h1
  simp only [show ¬ ((10 : Int) = 6) by decide, show ¬ ((10 : Int) = 2 ∧ twoF n = true) by simp, show ¬ ((10 : Int) = 3) by decide, show ¬ ((10 : Int) = 9) by decide, show ¬ ((10 : Int) = 8) by decide, if_false, if_true, Bool.and_eq_true, decide_eq_true_eq, beq_iff_eq] at h1
  exact ⟨h1.1.1.1.1, h1.1.1.1.2, h1.1.1.2, h1.1.2, h.funs rfl⟩
end Go.Proofs.Ytnobggabjpcbfaa

/-
  Flat programs: the plain law of a closure that does not hold itself: it runs as a group of one.
-/
set_option linter.unusedVariables false
set_option linter.unusedSimpArgs false
namespace Go.Proofs.Ytnobggabjpcbfaa

theorem atomsP_len {e : PEnv} : ∀ (ats : List Atm) (l : List PV), atomsP e ats = some l → l.length = ats.length
  | [], l, h => by simp only [atomsP, Option.some.injEq] at h; subst h; rfl
  | a :: ats, l, h => by
    unfold atomsP at h
    cases ha : atomP e a with
    | none => rw [ha] at h; cases h
    | some v =>
      rw [ha] at h
      simp only [Option.map_eq_some_iff] at h
      obtain ⟨l', h1, rfl⟩ := h
      simp [atomsP_len ats l' h1]
end Go.Proofs.Ytnobggabjpcbfaa

/-
  Groups in plain Lean: their variables, functions, and what they hold, place by place.
-/
set_option linter.unusedVariables false
set_option linter.unusedSimpArgs false
namespace Go.Proofs.Ytnobggabjpcbfaa

theorem nth_cons3 (x y z : Int) (l : List Int) (i : Nat) : nth (x :: y :: z :: l) (i + 3) = nth l i := by simp [nth]
theorem groupEnv_snoc : ∀ (k : Nat) (l : List Int) (x y z : Int) (i : Nat) (e : PEnv), l.length = 3 * k → groupEnv (l ++ [x, y, z]) i e = (x, .fn (i + k)) :: groupEnv l i e
  | 0, [], x, y, z, i, e, _ => by simp [groupEnv]
  | k + 1, a :: b :: c :: l, x, y, z, i, e, h => by
    have := groupEnv_snoc k l x y z (i + 1) ((a, .fn i) :: e) (by simp at h; omega)
    simp only [List.cons_append, groupEnv]
    rw [this, show i + 1 + k = i + (k + 1) by omega]
  | 0, _ :: _, x, y, z, i, e, h => by simp at h
  | k + 1, [], x, y, z, i, e, h => by simp at h
  | k + 1, [a], x, y, z, i, e, h => by simp at h; omega
  | k + 1, [a, b], x, y, z, i, e, h => by simp at h; omega
theorem groupEnv_take (ks : List Int) (i : Nat) (e : PEnv) {k : Nat} (h : 3 * k + 2 < ks.length) : groupEnv (ks.take (3 * (k + 1))) i e = (nth ks (3 * k), .fn (i + k)) :: groupEnv (ks.take (3 * k)) i e := by
  have h1 : ks.take (3 * (k + 1)) = ks.take (3 * k) ++ [nth ks (3 * k), nth ks (3 * k + 1), nth ks (3 * k + 2)] := by
    rw [show 3 * (k + 1) = 3 * k + 1 + 1 + 1 by omega, take_snoc ks (by omega), take_snoc ks (by omega), take_snoc ks (by omega)]
    simp
  rw [h1, groupEnv_snoc k _ _ _ _ _ _ (by simp; omega)]
def offN (ks : List Int) : Nat → Nat
  | 0 => 0
  | j + 1 => offN ks j + (nth ks (3 * j + 2)).toNat
theorem offN_cons (x y z : Int) (l : List Int) : ∀ j, offN (x :: y :: z :: l) (j + 1) = z.toNat + offN l j
  | 0 => by simp [offN, nth]
  | j + 1 => by
    have := offN_cons x y z l j
    unfold offN
    rw [this, show 3 * (j + 1) + 2 = 3 * j + 2 + 3 by omega, nth_cons3]
    unfold offN
    omega
theorem groupMade_length : ∀ (q : Nat) (ks : List Int) (l : List PV), ks.length = 3 * q → (groupMade ks l).length = q
  | 0, [], l, _ => by simp [groupMade]
  | q + 1, a :: b :: c :: ks, l, h => by simp [groupMade, groupMade_length q ks _ (by simp at h; omega)]
  | 0, _ :: _, l, h => by simp at h
  | q + 1, [], l, h => by simp at h
  | q + 1, [a], l, h => by simp at h; omega
  | q + 1, [a, b], l, h => by simp at h; omega
theorem groupMade_get : ∀ (q : Nat) (ks : List Int) (l : List PV), ks.length = 3 * q → ∀ j, j < q → (groupMade ks l)[j]? = some (nth ks (3 * j + 1), (l.drop (offN ks j)).take (nth ks (3 * j + 2)).toNat)
  | q + 1, a :: b :: c :: ks, l, h, 0, hj => by simp [groupMade, nth, offN]
  | q + 1, a :: b :: c :: ks, l, h, j + 1, hj => by
    have := groupMade_get q ks (l.drop c.toNat) (by simp at h; omega) j (by omega)
    simp only [groupMade, List.getElem?_cons_succ]
    rw [this, offN_cons, show 3 * (j + 1) + 1 = 3 * j + 1 + 3 by omega, show 3 * (j + 1) + 2 = 3 * j + 2 + 3 by omega, nth_cons3, nth_cons3, List.drop_drop]
  | 0, _, l, _, j, hj => by omega
  | q + 1, [], l, h, j, hj => by simp at h
  | q + 1, [a], l, h, j, hj => by simp at h; omega
  | q + 1, [a, b], l, h, j, hj => by simp at h; omega
theorem groupH_get : ∀ (q : Nat) (ks : List Int), ks.length = 3 * q → ∀ j, j < q → (groupH ks)[j]? = some (nth ks (3 * j + 2))
  | q + 1, a :: b :: c :: ks, h, 0, hj => by simp [groupH, nth]
  | q + 1, a :: b :: c :: ks, h, j + 1, hj => by
    simp only [groupH, List.getElem?_cons_succ]
    rw [groupH_get q ks (by simp at h; omega) j (by omega), show 3 * (j + 1) + 2 = 3 * j + 2 + 3 by omega, nth_cons3]
  | 0, _, _, j, hj => by omega
  | q + 1, [], h, j, hj => by simp at h
  | q + 1, [a], h, j, hj => by simp at h; omega
  | q + 1, [a, b], h, j, hj => by simp at h; omega
theorem groupF_get : ∀ (q : Nat) (ks : List Int), ks.length = 3 * q → ∀ j, j < q → (groupF ks)[j]? = some (nth ks (3 * j + 1))
  | q + 1, a :: b :: c :: ks, h, 0, hj => by simp [groupF, nth]
  | q + 1, a :: b :: c :: ks, h, j + 1, hj => by
    simp only [groupF, List.getElem?_cons_succ]
    rw [groupF_get q ks (by simp at h; omega) j (by omega), show 3 * (j + 1) + 1 = 3 * j + 1 + 3 by omega, nth_cons3]
  | 0, _, _, j, hj => by omega
  | q + 1, [], h, j, hj => by simp at h
  | q + 1, [a], h, j, hj => by simp at h; omega
  | q + 1, [a, b], h, j, hj => by simp at h; omega
theorem offN_sum : ∀ (q : Nat) (ks : List Int), ks.length = 3 * q → (groupH ks).all (fun h => inB h 0 255) = true → ((offN ks q : Nat) : Int) = sumL (groupH ks)
  | 0, [], _, _ => by simp [offN, groupH, sumL]
  | q + 1, a :: b :: c :: ks, h, hh => by
    simp only [groupH, List.all_cons, Bool.and_eq_true, inB_iff] at hh
    have := offN_sum q ks (by simp at h; omega) hh.2
    rw [offN_cons]
    simp only [groupH, sumL]
    omega
  | 0, _ :: _, h, _ => by simp at h
  | q + 1, [], h, _ => by simp at h
  | q + 1, [a], h, _ => by simp at h; omega
  | q + 1, [a, b], h, _ => by simp at h; omega
theorem offN_mono (ks : List Int) {i j : Nat} (h : i ≤ j) : offN ks i ≤ offN ks j := by
  induction h with
  | refl => exact Nat.le_refl _
  | step _ ih => exact Nat.le_trans ih (Nat.le_add_right _ _)
/-- what a group is that may be, place by place -/
structure GroupOk (nf : Nat) (ks : List Int) (na q : Nat) : Prop where
  len : ks.length = 3 * q
  q1 : 1 ≤ q
  f : ∀ j, j < q → 0 ≤ nth ks (3 * j + 1) ∧ nth ks (3 * j + 1) < nf
  h : ∀ j, j < q → 0 ≤ nth ks (3 * j + 2) ∧ nth ks (3 * j + 2) ≤ 255
  sum : offN ks q = na
theorem BindOk.group_ {nf : Nat} {x n : Int} {ats : List Atm} {ks : List Int} {nb : Nat} (h : BindOk nf x 10 n ats ks nb) : ∃ q, GroupOk nf ks ats.length q := by
  obtain ⟨h1, h2, h3, h4, h5⟩ := h.group
  have hl : ks.length = 3 * (ks.length / 3) := by omega
  refine ⟨ks.length / 3, hl, by omega, fun j hj => ?_, fun j hj => ?_, ?_⟩
  · have hg := groupF_get _ ks hl j hj
    have := List.all_eq_true.1 h5 _ (List.mem_of_getElem? hg)
    have := inB_iff.1 this
    omega
  · have hg := groupH_get _ ks hl j hj
    exact inB_iff.1 (List.all_eq_true.1 h1 _ (List.mem_of_getElem? hg))
  · have := offN_sum _ ks hl h1
    omega
end Go.Proofs.Ytnobggabjpcbfaa

/-
  Groups in plain Lean, of whatever length; what is asked of keys, from the left.
-/
set_option linter.unusedVariables false
set_option linter.unusedSimpArgs false
namespace Go.Proofs.Ytnobggabjpcbfaa

theorem groupV_get : ∀ (ks : List Int) (k : Nat), 3 * k < ks.length → (groupV ks)[k]? = some (nth ks (3 * k))
  | x :: y :: z :: ks, 0, h => by simp [groupV, nth]
  | x :: y :: z :: ks, k + 1, h => by
    simp only [groupV, List.getElem?_cons_succ]
    rw [groupV_get ks k (by simp at h; omega), show 3 * (k + 1) = 3 * k + 3 by omega, nth_cons3]
  | [x, y], 0, h => by simp [groupV, nth]
  | [x, y], k + 1, h => by simp at h; omega
  | [x], 0, h => by simp [groupV, nth]
  | [x], k + 1, h => by simp at h
  | [], k, h => by simp at h
theorem groupV_len : ∀ (ks : List Int), (groupV ks).length = (ks.length + 2) / 3
  | x :: y :: z :: ks => by simp only [groupV, List.length_cons, groupV_len ks]; omega
  | [x, y] => by simp [groupV]
  | [x] => by simp [groupV]
  | [] => by simp [groupV]
theorem groupF_get' : ∀ (ks : List Int) (k : Nat), 3 * k + 1 < ks.length → (groupF ks)[k]? = some (nth ks (3 * k + 1))
  | x :: y :: z :: ks, 0, h => by simp [groupF, nth]
  | x :: y :: z :: ks, k + 1, h => by
    simp only [groupF, List.getElem?_cons_succ]
    rw [groupF_get' ks k (by simp at h; omega), show 3 * (k + 1) + 1 = 3 * k + 1 + 3 by omega, nth_cons3]
  | [x, y], 0, h => by simp [groupF, nth]
  | [x, y], k + 1, h => by simp at h; omega
  | [x], k, h => by simp at h
  | [], k, h => by simp at h
theorem groupF_len : ∀ (ks : List Int), (groupF ks).length = (ks.length + 1) / 3
  | x :: y :: z :: ks => by simp only [groupF, List.length_cons, groupF_len ks]; omega
  | [x, y] => by simp [groupF]
  | [x] => by simp [groupF]
  | [] => by simp [groupF]
theorem groupH_get' : ∀ (ks : List Int) (k : Nat), 3 * k + 2 < ks.length → (groupH ks)[k]? = some (nth ks (3 * k + 2))
  | x :: y :: z :: ks, 0, h => by simp [groupH, nth]
  | x :: y :: z :: ks, k + 1, h => by
    simp only [groupH, List.getElem?_cons_succ]
    rw [groupH_get' ks k (by simp at h; omega), show 3 * (k + 1) + 2 = 3 * k + 2 + 3 by omega, nth_cons3]
  | [x, y], k, h => by simp at h; omega
  | [x], k, h => by simp at h
  | [], k, h => by simp at h
theorem groupH_len : ∀ (ks : List Int), (groupH ks).length = ks.length / 3
  | x :: y :: z :: ks => by simp only [groupH, List.length_cons, groupH_len ks]; omega
  | [x, y] => by simp [groupH]
  | [x] => by simp [groupH]
  | [] => by simp [groupH]
theorem sumL_append (a : List Int) (x : Int) : sumL (a ++ [x]) = sumL a + x := by
  induction a with
  | nil => simp [sumL]
  | cons y a ih => simp only [List.cons_append, sumL, ih]; omega
/-- what holds of some from the left -/
theorem all_take_succ {α : Type} {f : α → Bool} {l : List α} {k : Nat} {x : α} (hx : l[k]? = some x) (h : (l.take k).all f = true) (hf : f x = true) : (l.take (k + 1)).all f = true := by
  rw [List.take_add_one, hx]
  simp only [List.all_append, Bool.and_eq_true]
  exact ⟨h, by simpa using hf⟩
theorem all_false {α : Type} {f : α → Bool} {l : List α} {k : Nat} {x : α} (hx : l[k]? = some x) (hf : f x = false) : l.all f = false := by
  rw [Bool.eq_false_iff]
  intro h
  have := List.all_eq_true.1 h x (List.mem_of_getElem? hx)
  rw [hf] at this; cases this
theorem any_false_take {α : Type} {f : α → Bool} {l : List α} {k : Nat} (h : ∀ j, j < k → ∀ x, l[j]? = some x → f x = false) (hk : l.length ≤ k) : l.any f = false := by
  rw [Bool.eq_false_iff]
  intro h2
  obtain ⟨x, hx, hf⟩ := List.any_eq_true.1 h2
  obtain ⟨i, hi, rfl⟩ := List.getElem_of_mem hx
  have := h i (by omega) _ (List.getElem?_eq_getElem hi)
  rw [hf] at this; cases this
/-- what is asked of one key behind others -/
def riseOk (l : List Int) (i : Nat) : Bool := inB (nth l i) (-1073741824) 1073741823 && (i == 0 || decide (nth l (i - 1) < nth l i))
theorem risingB_true {l : List Int} (h : ∀ i, i < l.length → riseOk l i = true) : risingB l = true := by
  unfold risingB
  rw [Bool.and_eq_true]
  refine ⟨List.all_eq_true.2 fun x hx => ?_, List.all_eq_true.2 fun i hi => ?_⟩
  · obtain ⟨i, hi, rfl⟩ := List.getElem_of_mem hx
    have := h i hi
    unfold riseOk at this
    rw [Bool.and_eq_true, nth_eq l hi] at this
    exact this.1
  · have := h i (List.mem_range.1 hi)
    unfold riseOk at this
    rw [Bool.and_eq_true] at this
    exact this.2
theorem risingB_false {l : List Int} {i : Nat} (hi : i < l.length) (h : riseOk l i = false) : risingB l = false := by
  rw [Bool.eq_false_iff]
  intro h2
  unfold risingB at h2
  rw [Bool.and_eq_true] at h2
  have h3 := List.all_eq_true.1 h2.1 _ (List.getElem_mem hi)
  have h4 := List.all_eq_true.1 h2.2 i (List.mem_range.2 hi)
  unfold riseOk at h
  rw [nth_eq l hi] at h
  rw [nth_eq l hi] at h4
  simp only [h3, h4, Bool.and_self] at h
  cases h
end Go.Proofs.Ytnobggabjpcbfaa

/-
  Flat programs: the plain law of more fuel.
-/
set_option linter.unusedVariables false
set_option linter.unusedSimpArgs false
namespace Go.Proofs.Ytnobggabjpcbfaa

def FSt.up (s : FSt) (k : Nat) : FSt := { s with left := s.left + k }
/-- a run with less fuel and one with k more -/
structure RelF (k : Nat) (o o' : FOut) : Prop where
  whole : o.1 ≠ .cut → o' = (o.1, o.2.up k)
  cut : o.1 = .cut → o.2.left = 0 ∧ o.2.out <+: o'.2.out ∧ o'.2.left ≤ k
theorem RelF.same (k : Nat) (r : Res) (hr : r ≠ .cut) (s : FSt) : RelF k (r, s) (r, s.up k) := ⟨fun _ => rfl, fun h => absurd h hr⟩
theorem RelF.andThen {k m : Nat} {o o' : FOut} {f f' : PV → FSt → FOut} (h : RelF k o o') (hf : ∀ v, o.1 = .val v → RelF k (f v o.2) (f' v (o.2.up k))) (hg : ∀ v s, LeF s (f' v s).2 m) : RelF k (FOut.andThen o f) (FOut.andThen o' f') := by
  obtain ⟨r, s⟩ := o
  cases r with
  | val v => rw [h.whole (by simp)]; exact hf v rfl
  | raised v => rw [h.whole (by simp)]; exact RelF.same k _ (by simp) s
  | stuck => rw [h.whole (by simp)]; exact RelF.same k _ (by simp) s
  | cut =>
    obtain ⟨h1, h2, h3⟩ := h.cut rfl
    refine ⟨fun hh => absurd rfl hh, fun _ => ?_⟩
    have hgr := andThenF_le (l := 0) (LeF.refl o'.2 0) hg
    exact ⟨h1, h2.trans hgr.pre, Nat.le_trans hgr.left h3⟩
/-- a run that is cut off at once -/
theorem RelF.none {k m : Nat} {s : FSt} {o' : FOut} (h0 : s.left = 0) (h : LeF (s.up k) o'.2 m) : RelF k (.cut, s) o' :=
  ⟨fun hh => absurd rfl hh, fun _ => ⟨h0, h.pre, Nat.le_trans h.left (by simp [FSt.up, h0])⟩⟩
section
variable {funs : List FFun} {inp : List Int} {n k : Nat} {rec rec' : Anf → PEnv → FSt → FOut} (hle : ∀ t e s, LeF s (rec t e s).2) (hgr : ∀ t e s, LeF s (rec' t e s).2) (hrel : ∀ t e s, s.left < n → RelF k (rec t e s) (rec' t e (s.up k)))
include hle hgr hrel
omit hle in
theorem callF_rel (f a : PV) (s : FSt) (hs : s.left < n) : RelF k (callF funs rec f a s) (callF funs rec' f a (s.up k)) := by
  have hg := callF_le (funs := funs) hgr f a (s.up k)
  cases f with
  | fn i =>
    by_cases h0 : s.left = 0
    · have : callF funs rec (.fn i) a s = (.cut, s) := by unfold callF; simp only []; rw [if_pos h0]
      rw [this]
      exact RelF.none h0 hg
    · clear hg
      unfold callF
      simp only []
      rw [if_neg h0, if_neg (by simp only [FSt.up]; omega)]
      have hup : ({ s.up k with left := (s.up k).left - 1 } : FSt) = ({ s with left := s.left - 1 } : FSt).up k := by simp only [FSt.up]; congr 1; omega
      rw [hup]
      have e1 : (s.up k).made = s.made := rfl
      rw [e1]
      cases s.made[i]? with
      | none => exact RelF.same k _ (by simp) s
      | some c =>
        simp only []
        cases funs[c.1.toNat]? with
        | none => exact RelF.same k _ (by simp) s
        | some g => exact hrel _ _ { s with left := s.left - 1 } (by show s.left - 1 < n; omega)
  | int m => exact RelF.same k _ (by simp) s
  | blk t l => exact RelF.same k _ (by simp) s
  | ref i => exact RelF.same k _ (by simp) s
theorem primF_rel (p : Int) (l : List PV) (s : FSt) (hs : s.left < n) : RelF k (primF funs inp rec p l s) (primF funs inp rec' p l (s.up k)) := by
  unfold primF
  simp only []
  split
  · exact RelF.same k _ (by simp) { s with cells := s.cells ++ [l[0]?.getD default] }
  split
  · split
    · exact RelF.same k _ (by simp) s
    · exact RelF.same k _ (by simp) s
  split
  · split
    · rename_i i _
      exact RelF.same k _ (by simp) { s with cells := s.cells.set i (l[1]?.getD default) }
    · exact RelF.same k _ (by simp) s
  split
  · split
    · rename_i m _
      exact RelF.same k _ (by simp) { s with out := s.out ++ [m] }
    · exact RelF.same k _ (by simp) s
  split
  · unfold readF
    by_cases hc : s.asked < inp.length
    · rw [if_pos hc, if_pos (show (s.up k).asked < inp.length from hc)]
      exact RelF.same k _ (by simp) { s with asked := s.asked + 1 }
    · rw [if_neg hc, if_neg (show ¬ (s.up k).asked < inp.length from hc)]
      exact RelF.same k _ (by simp) { s with asked := s.asked + 1 }
  split
  · split
    · exact RelF.same k _ (by simp) s
    · exact RelF.same k _ (by simp) s
  split
  · have h := callF_rel (funs := funs) hgr hrel (l[0]?.getD default) (.int 0) s hs
    have hl := callF_le (funs := funs) hle (l[0]?.getD default) (.int 0) s
    generalize callF funs rec (l[0]?.getD default) (.int 0) s = o at *
    generalize callF funs rec' (l[0]?.getD default) (.int 0) (s.up k) = o' at *
    obtain ⟨r, s1⟩ := o
    cases r with
    | val v => rw [h.whole (by simp)]; exact RelF.same k _ (by simp) s1
    | raised v => rw [h.whole (by simp)]; exact callF_rel hgr hrel _ _ s1 (Nat.lt_of_le_of_lt hl.left hs)
    | stuck => rw [h.whole (by simp)]; exact RelF.same k _ (by simp) s1
    | cut =>
      obtain ⟨h1, h2, h3⟩ := h.cut rfl
      refine ⟨fun hh => absurd rfl hh, fun _ => ⟨h1, ?_⟩⟩
      obtain ⟨r', s2⟩ := o'
      cases r' with
      | raised v =>
        have := callF_le (funs := funs) hgr (l[1]?.getD default) v s2
        exact ⟨h2.trans this.pre, Nat.le_trans this.left h3⟩
      | val v => exact ⟨h2, h3⟩
      | stuck => exact ⟨h2, h3⟩
      | cut => exact ⟨h2, h3⟩
  split
  · split
    · exact RelF.same k _ (by simp) s
    · exact RelF.same k _ (by simp) s
  · exact RelF.same k _ (by simp) s
omit hle hgr hrel in
theorem fieldF_rel (v : PV) (m : Int) (s : FSt) : RelF k (fieldF v m s) (fieldF v m (s.up k)) := by
  unfold fieldF
  cases v with
  | blk t l =>
    simp only []
    split
    · exact RelF.same k _ (by simp) s
    · exact RelF.same k _ (by simp) s
  | fn i =>
    simp only []
    by_cases h : 1 ≤ m ∧ m ≤ (s.made[i]?.getD default).2.length
    · rw [if_pos h, if_pos (show 1 ≤ m ∧ m ≤ ((s.up k).made[i]?.getD default).2.length from h)]
      exact RelF.same k _ (by simp) s
    · rw [if_neg h, if_neg (show ¬ (1 ≤ m ∧ m ≤ ((s.up k).made[i]?.getD default).2.length) from h)]
      exact RelF.same k _ (by simp) s
  | int m => exact RelF.same k _ (by simp) s
  | ref i => exact RelF.same k _ (by simp) s
theorem rhsF_rel (kd m : Int) (l : List PV) (ks : List Int) (bl : List Anf) (e : PEnv) (s : FSt) (hs : s.left < n) : RelF k (rhsF funs inp rec kd m l ks bl e s) (rhsF funs inp rec' kd m l ks bl e (s.up k)) := by
  unfold rhsF
  split
  · exact RelF.same k _ (by simp) s
  split
  · exact RelF.same k _ (by simp) s
  split
  · exact RelF.same k _ (by simp) { s with made := s.made ++ [(m, l)] }
  split
  · exact fieldF_rel _ _ _
  split
  · exact callF_rel hgr hrel _ _ _ hs
  split
  · split
    · exact hrel _ _ _ hs
    · exact RelF.same k _ (by simp) s
  · exact primF_rel hle hgr hrel _ _ _ hs
theorem bindF_rel (x kd m : Int) (ats : List Atm) (ks : List Int) (bl : List Anf) (rest : Anf) (e : PEnv) (s : FSt) (hs : s.left < n) : RelF k (bindF funs inp rec x kd m ats ks bl rest e s) (bindF funs inp rec' x kd m ats ks bl rest e (s.up k)) := by
  unfold bindF
  split
  · simp only []
    have e1 : (s.up k).made = s.made := rfl
    rw [e1]
    generalize atomsP (groupEnv ks s.made.length e) ats = q
    cases q with
    | some l => exact hrel rest _ { s with made := s.made ++ groupMade ks l } hs
    | none => exact RelF.same k _ (by simp) s
  · generalize atomsP e ats = q
    cases q with
    | some l => exact (rhsF_rel hle hgr hrel _ _ _ _ _ _ _ hs).andThen (m := 0) (fun v _ => hrel _ _ _ (Nat.lt_of_le_of_lt (rhsF_le hle _ _ _ _ _ _ _).left hs)) (fun v s => hgr _ _ _)
    | none => exact RelF.same k _ (by simp) s
end
theorem evF_rel (funs : List FFun) (inp : List Int) (k : Nat) : ∀ (n n' : Nat), n ≤ n' → ∀ (t : Anf) (e : PEnv) (s : FSt), s.left < n → s.left + k < n' → RelF k (evF funs inp n t e s) (evF funs inp n' t e (s.up k))
  | 0, _, _, _, _, _, h, _ => absurd h (Nat.not_lt_zero _)
  | n + 1, 0, h, _, _, _, _, _ => by omega
  | n + 1, n' + 1, hn, .ret a, e, s, h1, h2 => by
    unfold evF
    split
    · exact RelF.same k _ (by simp) s
    · exact RelF.same k _ (by simp) s
  | n + 1, n' + 1, hn, .bind x kd m ats ks bl rest, e, s, h1, h2 => by
    by_cases h0 : s.left = 0
    · have hA : evF funs inp (n + 1) (.bind x kd m ats ks bl rest) e s = (.cut, s) := by rw [evF, if_pos h0]
      rw [hA]
      exact RelF.none h0 (evF_le funs inp (n' + 1) _ e (s.up k))
    · have hB : ¬ (s.up k).left = 0 := by simp only [FSt.up]; omega
      have hup : ({ s.up k with left := (s.up k).left - 1 } : FSt) = ({ s with left := s.left - 1 } : FSt).up k := by simp only [FSt.up]; congr 1; omega
      rw [evF, evF, if_neg h0, if_neg hB, hup]
      refine bindF_rel (n := s.left) (evF_le funs inp n) (evF_le funs inp n') (fun t e s' hs' => ?_) x kd m ats ks bl rest e { s with left := s.left - 1 } (by show s.left - 1 < s.left; omega)
      exact evF_rel funs inp k n n' (by omega) t e s' (by omega) (by omega)
theorem endF_out (F : Nat) (o : FOut) : (endF F o).out = o.2.out := by
  obtain ⟨r, s⟩ := o
  cases r <;> simp [endF]
  split <;> rfl
theorem endF_steps (F : Nat) (o : FOut) : (endF F o).steps = F - o.2.left := by
  obtain ⟨r, s⟩ := o
  cases r <;> simp [endF]
  split <;> rfl
end Go.Proofs.Ytnobggabjpcbfaa

/-
  Flat programs: the plain law of FevalMain: what is run runs so as the body of a function that is called.
-/
set_option linter.unusedVariables false
set_option linter.unusedSimpArgs false
namespace Go.Proofs.Ytnobggabjpcbfaa

/-! ### closures' numbers one up -/
mutual
def PV.upN : PV → PV
  | .int n => .int n
  | .blk t ks => .blk t (upNL ks)
  | .fn i => .fn (i + 1)
  | .ref i => .ref i
def upNL : List PV → List PV
  | [] => []
  | v :: l => v.upN :: upNL l
end
theorem upNL_map (l : List PV) : upNL l = l.map PV.upN := by
  induction l with
  | nil => rfl
  | cons v l ih => simp [upNL, ih]
def Res.upN : Res → Res
  | .val v => .val v.upN
  | .raised v => .raised v.upN
  | .stuck => .stuck
  | .cut => .cut
theorem keyN_up (v : PV) : keyOf v.upN = keyOf v := by cases v <;> rfl
theorem getDN_up (l : List PV) (i : Nat) : ((l.map PV.upN)[i]?.getD default) = (l[i]?.getD default).upN := by
  rw [List.getElem?_map]
  cases l[i]? <;> rfl
def upN2 (c : Int × List PV) : Int × List PV := (c.1, c.2.map PV.upN)
def upNE (z e : PEnv) : PEnv := e.map (fun p => (p.1, p.2.upN)) ++ z
def upNS (nf : Nat) (s : FSt) : FSt := ⟨s.left, ((nf : Int), []) :: s.made.map upN2, s.cells.map PV.upN, s.out, s.asked⟩
theorem lookupN_up {z e : PEnv} {x : Int} (h : x ∈ e.map (·.1)) : lookup (upNE z e) x = (lookup e x).map PV.upN := by
  induction e with
  | nil => simp at h
  | cons p e ih =>
    by_cases hp : p.1 = x
    · simp [lookup, upNE, hp]
    · have hpb : (p.1 == x) = false := by simpa using hp
      have ih := ih (by
        simp only [List.map_cons, List.mem_cons] at h
        rcases h with h | h
        · exact absurd h.symm hp
        · exact h)
      simpa [lookup, upNE, hpb] using ih
/-- all that is known has a value -/
def DomN (kn : List Int) (e : PEnv) : Prop := ∀ x ∈ kn, x ∈ e.map (·.1)
theorem DomN.cons {kn : List Int} {e : PEnv} (h : DomN kn e) (x : Int) (v : PV) : DomN (x :: kn) ((x, v) :: e) := fun y hy => by
  rcases List.mem_cons.1 hy with rfl | hy
  · simp
  · have := h y hy; simp only [List.map_cons, List.mem_cons]; exact .inr this
theorem atomPN_up {z e : PEnv} {kn : List Int} (h : DomN kn e) {a : Atm} (ha : asksB kn a = true) : atomP (upNE z e) a = (atomP e a).map PV.upN := by
  unfold atomP
  by_cases hv : a.v = true
  · rw [if_pos hv, if_pos hv]
    simp only [asksB, hv, Bool.not_true, Bool.false_or] at ha
    exact lookupN_up (h a.n (by simpa using ha))
  · rw [if_neg hv, if_neg hv]
    rfl
theorem atomsPN_up {z e : PEnv} {kn : List Int} (h : DomN kn e) : ∀ (ats : List Atm), ats.all (asksB kn) = true → atomsP (upNE z e) ats = (atomsP e ats).map (List.map PV.upN)
  | [], _ => rfl
  | a :: ats, ha => by
    simp only [List.all_cons, Bool.and_eq_true] at ha
    unfold atomsP
    rw [atomPN_up h ha.1, atomsPN_up h ats ha.2]
    cases atomP e a with
    | none => rfl
    | some v =>
      simp only [Option.map_some]
      cases atomsP e ats <;> rfl
theorem groupEnvN_up {z : PEnv} : ∀ (ks : List Int) (i : Nat) (e : PEnv), groupEnv ks (i + 1) (upNE z e) = upNE z (groupEnv ks i e)
  | x :: _ :: _ :: ks, i, e => by
    have := groupEnvN_up (z := z) ks (i + 1) ((x, .fn i) :: e)
    unfold groupEnv
    exact this
  | [], _, _ => rfl
  | [_], _, _ => rfl
  | [_, _], _, _ => rfl
theorem groupEnvN_dom : ∀ (ks : List Int) (i : Nat) (e : PEnv) (x : Int), 3 ∣ ks.length → (x ∈ groupV ks ∨ x ∈ e.map (·.1)) → x ∈ (groupEnv ks i e).map (·.1)
  | y :: _ :: _ :: ks, i, e, x, h3, h => by
    unfold groupEnv
    refine groupEnvN_dom ks (i + 1) ((y, .fn i) :: e) x (by simp only [List.length_cons] at h3; omega) ?_
    simp only [groupV, List.mem_cons] at h
    simp only [List.map_cons, List.mem_cons]
    rcases h with (h | h) | h
    · exact .inr (.inl h)
    · exact .inl h
    · exact .inr (.inr h)
  | [], _, _, x, _, h => by
    simp only [groupV, List.not_mem_nil, false_or] at h
    exact h
  | [_], _, _, x, h3, _ => by simp at h3
  | [_, _], _, _, x, h3, _ => by simp at h3
theorem groupMadeN_up : ∀ (ks : List Int) (l : List PV), groupMade ks (l.map PV.upN) = (groupMade ks l).map upN2
  | _ :: f :: h :: ks, l => by
    unfold groupMade
    rw [List.map_cons, ← List.map_take, ← List.map_drop, groupMadeN_up ks]
    rfl
  | [], _ => rfl
  | [_], _ => rfl
  | [_, _], _ => rfl
theorem groupMadeN_ok {nf : Nat} : ∀ (ks : List Int) (l : List PV), (groupF ks).all (fun f => inB f 0 ((nf : Int) - 1)) = true → ∀ c ∈ groupMade ks l, c.1.toNat < nf
  | x :: f :: h :: ks, l, hg => by
    intro c hc
    simp only [groupF, List.all_cons, Bool.and_eq_true] at hg
    simp only [groupMade, List.mem_cons] at hc
    rcases hc with rfl | hc
    · have := inB_iff.1 hg.1; show f.toNat < nf; omega
    · exact groupMadeN_ok ks _ hg.2 c hc
  | [], l, _ => by simp [groupMade]
  | [_], l, _ => by simp [groupMade]
  | [_, _], l, _ => by simp [groupMade]
def MadeN (nf : Nat) (s : FSt) : Prop := ∀ c ∈ s.made, c.1.toNat < nf
/-- two outcomes that go together -/
def SimN (nf : Nat) (o o' : FOut) : Prop := o' = (o.1.upN, upNS nf o.2) ∧ MadeN nf o.2
theorem SimN.mk (nf : Nat) (r : Res) {s : FSt} (h : MadeN nf s) : SimN nf (r, s) (r.upN, upNS nf s) := ⟨rfl, h⟩
theorem SimN.andThen {nf : Nat} {o o' : FOut} {f f' : PV → FSt → FOut} (h : SimN nf o o') (hf : ∀ v s, MadeN nf s → SimN nf (f v s) (f' v.upN (upNS nf s))) : SimN nf (FOut.andThen o f) (FOut.andThen o' f') := by
  obtain ⟨r, s⟩ := o
  obtain ⟨rfl, hs⟩ := h
  cases r with
  | val v => exact hf v s hs
  | raised v => exact SimN.mk nf (.raised v) hs
  | stuck => exact SimN.mk nf .stuck hs
  | cut => exact SimN.mk nf .cut hs
theorem blocks_mem {nf : Nat} {kn : List Int} : ∀ {bl : List Anf}, blocksE nf kn bl = 0 → ∀ i : Nat, bodyE nf kn (bl[i]?.getD default) = 0
  | [], _, i => by
    simp only [List.getElem?_nil, Option.getD_none]
    show bodyE nf kn (.ret ⟨false, 0⟩) = 0
    simp [bodyE, atomB, inB, asksB]
  | c :: cs, h, i => by
    unfold blocksE at h
    obtain ⟨h1, h⟩ := ite_zero h (fun h => h)
    cases i with
    | zero => simpa using h1
    | succ i => simpa using blocks_mem h i
section
variable {funs : List FFun} {more : FFun} {inp : List Int} {rec rec' : Anf → PEnv → FSt → FOut}
  (hf : ∀ g ∈ funs, bodyE funs.length [g.param, g.env] g.body = 0)
  (hrec : ∀ t e s kn z, bodyE funs.length kn t = 0 → DomN kn e → MadeN funs.length s → SimN funs.length (rec t e s) (rec' t (upNE z e) (upNS funs.length s)))
include hf hrec
theorem callN_sim (f a : PV) (s : FSt) (hs : MadeN funs.length s) : SimN funs.length (callF funs rec f a s) (callF (funs ++ [more]) rec' f.upN a.upN (upNS funs.length s)) := by
  unfold callF
  cases f with
  | fn i =>
    simp only [PV.upN]
    by_cases h0 : s.left = 0
    · rw [if_pos h0, if_pos (show (upNS funs.length s).left = 0 from h0)]
      exact SimN.mk _ .cut hs
    · rw [if_neg h0, if_neg (show ¬ (upNS funs.length s).left = 0 from h0)]
      have hm : (upNS funs.length s).made[i + 1]? = (s.made[i]?).map upN2 := by simp [upNS]
      rw [hm]
      cases hc : s.made[i]? with
      | none => exact SimN.mk _ .stuck hs
      | some c =>
        have hlt := hs c (List.mem_of_getElem? hc)
        simp only [Option.map_some, upN2]
        rw [List.getElem?_append_left hlt, List.getElem?_eq_getElem hlt]
        have hb := hf _ (List.getElem_mem hlt)
        generalize funs[c.1.toNat] = g at hb ⊢
        have h := hrec g.body [(g.param, a), (g.env, .fn i)] { s with left := s.left - 1 } [g.param, g.env] [] hb (fun x hx => by simpa using hx) hs
        simp only [upNE, List.map_cons, List.map_nil, List.append_nil, PV.upN] at h
        exact h
  | int m => exact SimN.mk _ .stuck hs
  | blk t l => exact SimN.mk _ .stuck hs
  | ref i => exact SimN.mk _ .stuck hs
theorem primN_sim (p : Int) (l : List PV) (s : FSt) (hs : MadeN funs.length s) : SimN funs.length (primF funs inp rec p l s) (primF (funs ++ [more]) inp rec' p (l.map PV.upN) (upNS funs.length s)) := by
  unfold primF
  simp only [getDN_up]
  generalize l[0]?.getD default = a
  generalize l[1]?.getD default = b
  split
  · refine ⟨?_, hs⟩
    simp [upNS, Res.upN, PV.upN]
  split
  · cases a with
    | ref i =>
      refine ⟨?_, hs⟩
      simp only [PV.upN, upNS, Res.upN, getDN_up]
    | _ => exact SimN.mk _ .stuck hs
  split
  · cases a with
    | ref i =>
      refine ⟨?_, hs⟩
      simp [PV.upN, upNS, Res.upN, List.map_set]
    | _ => exact SimN.mk _ .stuck hs
  split
  · cases a with
    | int n => exact ⟨rfl, hs⟩
    | _ => exact SimN.mk _ .stuck hs
  split
  · unfold readF
    by_cases hc : s.asked < inp.length
    · rw [if_pos hc, if_pos (show (upNS funs.length s).asked < inp.length from hc)]
      exact ⟨rfl, hs⟩
    · rw [if_neg hc, if_neg (show ¬ (upNS funs.length s).asked < inp.length from hc)]
      exact ⟨rfl, hs⟩
  split
  · rw [keyN_up]
    cases keyOf a with
    | some k => exact SimN.mk _ (.raised a) hs
    | none => exact SimN.mk _ .stuck hs
  split
  · have h := callN_sim (more := more) hf hrec a (.int 0) s hs
    have hi : (PV.int 0).upN = .int 0 := rfl
    rw [hi] at h
    have hr := fun v s1 (h1 : MadeN funs.length s1) => callN_sim (more := more) hf hrec b v s1 h1
    generalize callF funs rec a (.int 0) s = o at *
    obtain ⟨h1, h2⟩ := h
    rw [h1]
    obtain ⟨r, s1⟩ := o
    cases r with
    | raised v => exact hr v s1 h2
    | val v => exact SimN.mk _ (.val v) h2
    | stuck => exact SimN.mk _ .stuck h2
    | cut => exact SimN.mk _ .cut h2
  · cases a with
    | int x =>
      cases b with
      | int y =>
        simp only [PV.upN]
        cases doP p x y with
        | some n => exact SimN.mk _ (.val (.int n)) hs
        | none => exact SimN.mk _ (.raised (.int 0)) hs
      | _ => exact SimN.mk _ .stuck hs
    | _ => exact SimN.mk _ .stuck hs
omit hf hrec in
theorem fieldN_sim (nf : Nat) (v : PV) (n : Int) (s : FSt) (hs : MadeN nf s) : SimN nf (fieldF v n s) (fieldF v.upN n (upNS nf s)) := by
  unfold fieldF
  cases v with
  | blk t l =>
    simp only [PV.upN, upNL_map, List.length_map]
    by_cases h : 0 ≤ n ∧ n < l.length
    · rw [if_pos h, if_pos h, getDN_up]; exact SimN.mk nf (.val _) hs
    · rw [if_neg h, if_neg h]; exact SimN.mk nf .stuck hs
  | fn i =>
    simp only [PV.upN]
    have hm : ((upNS nf s).made[i + 1]?.getD default) = upN2 (s.made[i]?.getD default) := by
      simp only [upNS, List.getElem?_cons_succ, List.getElem?_map]
      cases s.made[i]? <;> rfl
    rw [hm]
    generalize (s.made[i]?.getD default) = c
    have hl : (upN2 c).2.length = c.2.length := by simp [upN2]
    rw [hl]
    by_cases h : 1 ≤ n ∧ n ≤ c.2.length
    · rw [if_pos h, if_pos h]
      have : ((upN2 c).2[(n - 1).toNat]?.getD default) = (c.2[(n - 1).toNat]?.getD default).upN := getDN_up c.2 _
      rw [this]
      exact SimN.mk nf (.val _) hs
    · rw [if_neg h, if_neg h]; exact SimN.mk nf .stuck hs
  | int m => exact SimN.mk nf .stuck hs
  | ref i => exact SimN.mk nf .stuck hs
theorem rhsN_sim (k n : Int) (l : List PV) (ks : List Int) (bl : List Anf) (kn : List Int) (z e : PEnv) (s : FSt) (hs : MadeN funs.length s) (hk : k = 9 → 0 ≤ n ∧ n < funs.length) (hb : blocksE funs.length kn bl = 0) (hd : DomN kn e) :
    SimN funs.length (rhsF funs inp rec k n l ks bl e s) (rhsF (funs ++ [more]) inp rec' k n (l.map PV.upN) ks bl (upNE z e) (upNS funs.length s)) := by
  unfold rhsF
  simp only [getDN_up]
  split
  · exact SimN.mk _ (.val _) hs
  split
  · have : (PV.blk n (l.map PV.upN)) = (PV.blk n l).upN := by simp only [PV.upN, upNL_map]
    rw [this]
    exact SimN.mk _ (.val _) hs
  split
  · rename_i h9
    refine ⟨?_, fun c hc => ?_⟩
    · simp [upNS, Res.upN, PV.upN, upN2]
    · rcases List.mem_append.1 hc with hc | hc
      · exact hs c hc
      · simp only [List.mem_singleton] at hc
        subst hc
        have := hk h9
        show n.toNat < _; omega
  split
  · exact fieldN_sim _ _ _ _ hs
  split
  · exact callN_sim hf hrec _ _ _ hs
  split
  · rw [keyN_up]
    cases keyOf (l[0]?.getD default) with
    | some key => exact hrec _ e s kn z (blocks_mem hb _) hd hs
    | none => exact SimN.mk _ .stuck hs
  · exact primN_sim hf hrec _ _ _ hs
theorem bindN_sim (x k n : Int) (ats : List Atm) (ks : List Int) (bl : List Anf) (rest : Anf) (kn : List Int) (z e : PEnv) (s : FSt) (hs : MadeN funs.length s) (hd : DomN kn e) (ht : bodyE funs.length kn (.bind x k n ats ks bl rest) = 0) :
    SimN funs.length (bindF funs inp rec x k n ats ks bl rest e s) (bindF (funs ++ [more]) inp rec' x k n ats ks bl rest (upNE z e) (upNS funs.length s)) := by
  unfold bodyE at ht
  obtain ⟨h1, ht⟩ := ite_zero ht (fun h => h)
  obtain ⟨h2, ht⟩ := ite_zero ht (fun _ => by decide)
  obtain ⟨h3, ht⟩ := ite_zero ht (fun h => h)
  have hok := bindOk_of (by simpa using h1)
  have h3' := by simpa using h3
  have h2' : ats.all (asksB (if k = 10 then groupV ks ++ kn else kn)) = true := by simpa using h2
  unfold bindF
  by_cases hk : k = 10
  · subst hk
    obtain ⟨-, -, hk3, -, hkf⟩ := hok.group
    rw [if_pos rfl] at h2' ht
    rw [if_pos rfl, if_pos rfl]
    have hlen : (upNS funs.length s).made.length = s.made.length + 1 := by simp [upNS]
    simp only [hlen, groupEnvN_up]
    have hd2 : DomN (groupV ks ++ kn) (groupEnv ks s.made.length e) := fun y hy => groupEnvN_dom ks _ e y (Nat.dvd_of_mod_eq_zero hk3) (by
      rcases List.mem_append.1 hy with hy | hy
      · exact .inl hy
      · exact .inr (hd y hy))
    rw [atomsPN_up hd2 ats h2']
    cases atomsP (groupEnv ks s.made.length e) ats with
    | none => exact SimN.mk _ .stuck hs
    | some l =>
      simp only [Option.map_some]
      have h := hrec rest (groupEnv ks s.made.length e) { s with made := s.made ++ groupMade ks l } _ z ht hd2 (fun c hc => by
        rcases List.mem_append.1 hc with hc | hc
        · exact hs c hc
        · exact groupMadeN_ok ks l hkf c hc)
      have he : upNS funs.length { s with made := s.made ++ groupMade ks l } = { upNS funs.length s with made := (upNS funs.length s).made ++ groupMade ks (l.map PV.upN) } := by
        simp [upNS, groupMadeN_up]
      rw [he] at h
      exact h
  · rw [if_neg hk] at h2' ht h3'
    rw [if_neg hk, if_neg hk, atomsPN_up hd ats h2']
    cases atomsP e ats with
    | none => exact SimN.mk _ .stuck hs
    | some l =>
      simp only [Option.map_some]
      refine (rhsN_sim (more := more) (inp := inp) hf hrec k n l ks bl kn z e s hs (fun h9 => by subst h9; have := hok.close; exact ⟨this.2.1, this.2.2⟩) h3' hd).andThen (fun v s' hs' => ?_)
      exact hrec rest ((x, v) :: e) s' _ z ht (hd.cons x v) hs'
end
theorem evN_sim {funs : List FFun} (more : FFun) (inp : List Int) (hf : ∀ g ∈ funs, bodyE funs.length [g.param, g.env] g.body = 0) : ∀ (n : Nat) (t : Anf) (e : PEnv) (s : FSt) (kn : List Int) (z : PEnv), bodyE funs.length kn t = 0 → DomN kn e → MadeN funs.length s →
    SimN funs.length (evF funs inp n t e s) (evF (funs ++ [more]) inp n t (upNE z e) (upNS funs.length s))
  | 0, _, _, s, _, _, _, _, hs => SimN.mk _ .cut hs
  | n + 1, .ret a, e, s, kn, z, ht, hd, hs => by
    unfold bodyE at ht
    obtain ⟨_, ht⟩ := ite_zero ht (fun _ => by decide)
    have ha : asksB kn a = true := by
      cases h : asksB kn a
      · rw [if_pos h] at ht; exact absurd ht (by decide)
      · rfl
    unfold evF
    rw [atomPN_up hd ha]
    cases atomP e a with
    | none => exact SimN.mk _ .stuck hs
    | some v => exact SimN.mk _ (.val v) hs
  | n + 1, .bind x k m ats ks bl rest, e, s, kn, z, ht, hd, hs => by
    unfold evF
    by_cases h0 : s.left = 0
    · rw [if_pos h0, if_pos (show (upNS funs.length s).left = 0 from h0)]; exact SimN.mk _ .cut hs
    · rw [if_neg h0, if_neg (show ¬ (upNS funs.length s).left = 0 from h0)]
      exact bindN_sim (more := more) hf (evN_sim more inp hf n) x k m ats ks bl rest kn z e { s with left := s.left - 1 } hs hd ht
theorem callF_fn {funs : List FFun} {rec : Anf → PEnv → FSt → FOut} {i : Nat} {a : PV} {s : FSt} {c : Int × List PV} {g : FFun} (h0 : s.left ≠ 0) (hc : s.made[i]? = some c) (hg : funs[c.1.toNat]? = some g) : callF funs rec (.fn i) a s = rec g.body [(g.param, a), (g.env, .fn i)] { s with left := s.left - 1 } := by
  unfold callF
  simp only []
  rw [if_neg h0, hc]
  simp only []
  rw [hg]
/-- the body that calls it -/
def callerA (nf : Int) : Anf := .bind 65533 9 nf [] [] [] (.bind 65532 6 0 [⟨true, 65533⟩, ⟨false, 0⟩] [] [] (.ret ⟨true, 65532⟩))
theorem funs_body : ∀ {nf : Nat} {l : List FFun}, funsE nf l = 0 → ∀ g ∈ l, bodyE nf [g.param, g.env] g.body = 0
  | nf, g :: gs, h, x, hx => by
    unfold funsE at h
    obtain ⟨_, h⟩ := ite_zero h (fun _ => by decide)
    obtain ⟨_, h⟩ := ite_zero h (fun _ => by decide)
    obtain ⟨h1, h⟩ := ite_zero h (fun h => h)
    rcases List.mem_cons.1 hx with rfl | hx
    · simpa using h1
    · exact funs_body h x hx
/-- **the law of FevalMain** -/
theorem main_ends {p : FlatP} {inp : List Int} (hr : rightC p = 0) (hk : (endF 1000 (evF p.funs inp 1001 p.main [] (initF 1000))).kind ≠ 3) :
    (endF 1003 (evF (p.funs ++ [⟨65535, 65534, p.main⟩]) inp 1004 (callerA p.funs.length) [] (initF 1003))).kind = (endF 1000 (evF p.funs inp 1001 p.main [] (initF 1000))).kind ∧
    (endF 1003 (evF (p.funs ++ [⟨65535, 65534, p.main⟩]) inp 1004 (callerA p.funs.length) [] (initF 1003))).n = (endF 1000 (evF p.funs inp 1001 p.main [] (initF 1000))).n ∧
    (endF 1003 (evF (p.funs ++ [⟨65535, 65534, p.main⟩]) inp 1004 (callerA p.funs.length) [] (initF 1003))).out = (endF 1000 (evF p.funs inp 1001 p.main [] (initF 1000))).out ∧
    (endF 1003 (evF (p.funs ++ [⟨65535, 65534, p.main⟩]) inp 1004 (callerA p.funs.length) [] (initF 1003))).steps = (endF 1000 (evF p.funs inp 1001 p.main [] (initF 1000))).steps + 3 := by
  unfold rightC at hr
  obtain ⟨_, hr⟩ := ite_zero hr (fun _ => by decide)
  obtain ⟨_, hr⟩ := ite_zero hr (fun _ => by decide)
  obtain ⟨h1, hr⟩ := ite_zero hr (fun h => h)
  have hfb := funs_body (by simpa using h1)
  -- the callee's run
  have hsim := evN_sim ⟨65535, 65534, p.main⟩ inp hfb 1002 p.main [] (initF 1000) [] [(65534, .int 0), (65535, .fn 0)] hr (fun x hx => by simp at hx) (fun c hc => by simp [initF] at hc)
  have hrel := evF_rel p.funs inp 0 1001 1002 (by omega) p.main [] (initF 1000) (by simp [initF]) (by simp [initF])
  have hle := evF_le p.funs inp 1001 p.main [] (initF 1000)
  have hup0 : (initF 1000).up 0 = initF 1000 := rfl
  rw [hup0] at hrel
  -- the caller
  have hcall : evF (p.funs ++ [⟨65535, 65534, p.main⟩]) inp 1004 (callerA p.funs.length) [] (initF 1003)
      = FOut.andThen (evF (p.funs ++ [⟨65535, 65534, p.main⟩]) inp 1002 p.main [(65534, .int 0), (65535, .fn 0)] (upNS p.funs.length (initF 1000))) (fun v s => (.val v, s)) := by
    unfold callerA
    rw [evF, if_neg (by simp [initF])]
    unfold bindF
    rw [if_neg (by decide)]
    simp only [atomsP]
    unfold rhsF
    rw [if_neg (by decide), if_neg (by decide), if_pos rfl]
    simp only [FOut.andThen]
    rw [evF, if_neg (by simp [initF])]
    unfold bindF
    rw [if_neg (by decide)]
    have ha : atomsP [((65533 : Int), PV.fn (initF 1003).made.length)] [⟨true, 65533⟩, ⟨false, 0⟩] = some [.fn 0, .int 0] := by rfl
    simp only [ha]
    unfold rhsF
    rw [if_neg (by decide), if_neg (by decide), if_neg (by decide), if_neg (by decide), if_pos rfl]
    simp only [List.getElem?_cons_zero, Option.getD_some, List.getElem?_cons_succ]
    rw [callF_fn (c := ((p.funs.length : Int), [])) (g := ⟨65535, 65534, p.main⟩) (by simp [initF]) rfl (by simp)]
    simp only [initF, List.nil_append]
    have hst : (⟨1003 - 1 - 1 - 1, [((p.funs.length : Int), [])], [], [], 0⟩ : FSt) = upNS p.funs.length (⟨1000, [], [], [], 0⟩ : FSt) := rfl
    rw [hst]
    generalize evF (p.funs ++ [⟨65535, 65534, p.main⟩]) inp 1002 p.main [(65534, .int 0), (65535, .fn 0)] (upNS p.funs.length (⟨1000, [], [], [], 0⟩ : FSt)) = o
    obtain ⟨r, s⟩ := o
    cases r with
    | val v => rfl
    | raised v => rfl
    | stuck => rfl
    | cut => rfl
  rw [hcall]
  have hz : upNE [(65534, PV.int 0), (65535, PV.fn 0)] [] = [(65534, PV.int 0), (65535, PV.fn 0)] := rfl
  rw [hz] at hsim
  generalize evF (p.funs ++ [⟨65535, 65534, p.main⟩]) inp 1002 p.main [(65534, .int 0), (65535, .fn 0)] (upNS p.funs.length (initF 1000)) = o2 at *
  generalize evF p.funs inp 1001 p.main [] (initF 1000) = o at *
  have hoc : o.1 ≠ .cut := by
    intro hc
    obtain ⟨r, s⟩ := o
    simp only at hc
    subst hc
    exact hk rfl
  have hw := hrel.whole hoc
  rw [hw] at hsim
  obtain ⟨ho2, -⟩ := hsim
  have hl : o.2.left ≤ 1000 := hle.left
  have hst : 1003 - o.2.left = 1000 - o.2.left + 3 := by omega
  obtain ⟨r, s⟩ := o
  have hs0 : s.up 0 = s := rfl
  simp only [hs0] at ho2 hst
  rw [ho2]
  clear ho2 hw hrel hle hcall hk hoc
  cases r with
  | val v => exact ⟨rfl, rfl, rfl, hst⟩
  | raised v =>
    simp only [FOut.andThen, Res.upN, endF, keyN_up]
    by_cases hq : 0 ≤ (keyOf v).getD 0
    · rw [if_pos hq, if_pos hq]; exact ⟨rfl, rfl, rfl, hst⟩
    · rw [if_neg hq, if_neg hq]; exact ⟨rfl, rfl, rfl, hst⟩
  | stuck => exact ⟨rfl, rfl, rfl, hst⟩
  | cut => exact ⟨rfl, rfl, rfl, hst⟩
end Go.Proofs.Ytnobggabjpcbfaa
