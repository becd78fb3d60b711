/-
  21 texts of this seat in one: A E0 K0 K1 K6 K7 K8 K9 K4 K12 H1 K5 K13 D1 K14 H2 H3 H4 H5 D2 D3.
-/
import Derived.WalkKit
import Derived.WalkLawsBesides
import Derived.WalkSpells
import Derived.Lib.Hide
import Derived.Deep.QuietTactic
import Derived.BigQuiet
import Derived.Test.YtnobggabjpcbfaaProg
import Derived.Deep.LoopGhost
import Derived.RangeFuncRecord
import Derived.Laws.EntriesVeiled
import Derived.Maps.AppendAt
import Derived.Maps.OwnSet
import Derived.Recover
import Derived.Deep.RegionLaw
import Derived.Deep.RegionHeld
import Derived.Deep.RegionHeld2
import Derived.BigRegion
import Derived.StillTailTactics
/-
  Words shared by all texts of this seat: lists of ints in memory, core terms in memory, small lemmas.
-/
set_option linter.unusedVariables false
set_option linter.unusedSimpArgs false
namespace Go.Proofs.Ytnobggabjpcbfaa
open Go.RowKit

theorem ret_int {k : IntKind} {a b : Int} (h : a = b) : Ending.returned (.int k a) = .returned (.int k b) := by rw [h]
theorem ret_bool {a b : Bool} (h : a = b) : Ending.returned (.bool a) = .returned (.bool b) := by rw [h]

theorem below_drewN {B : Nat} {a w : World} (h : Below B a w) (n : Nat) : Below B a (w.drewN n) := ⟨h.os, h.tape, h.output, h.size, h.block⟩
theorem below_alloc {w W : World} (h : Below w.heap.size w W) (o : Obj) : Below w.heap.size w (W.alloc o) := h.alloc h.size o
/-- the element at a place: a word that the walk does not look into -/
def nth (l : List Int) (i : Nat) : Int := l[i]?.getD 0
theorem nth_eq (l : List Int) {i : Nat} (h : i < l.length) : nth l i = l[i] := by simp [nth, h]
theorem nth_mem (l : List Int) {i : Nat} (h : i < l.length) : nth l i ∈ l := by rw [nth_eq l h]; exact List.getElem_mem h
theorem nth_take (l : List Int) {i n : Nat} (h : i < n) : nth (l.take n) i = nth l i := by simp [nth, List.getElem?_take, h]
theorem take_snoc (l : List Int) {k : Nat} (h : k < l.length) : l.take (k + 1) = l.take k ++ [nth l k] := by
  rw [List.take_add_one, List.getElem?_eq_getElem h, nth_eq l h]; rfl

/-- ints in memory, in blocks below B -/
def IntsIn (B : Nat) (w : World) (A : Option Addr) (ks : List Int) : Prop :=
  ks.length * 8 ≤ 140737488351232 ∧ (ks = [] ∨ ∃ b o, A = some ⟨b, o, none⟩ ∧ b < B ∧ ∀ j, j < ks.length → w.cell? ⟨b, o + j, none⟩ = some (.int .i64 (nth ks j)))
theorem IntsIn.below {B : Nat} {w w' : World} {A : Option Addr} {ks : List Int} (h : IntsIn B w A ks) (hb : Below B w w') : IntsIn B w' A ks := by
  refine ⟨h.1, h.2.imp id ?_⟩
  rintro ⟨b, o, rfl, hlt, hc⟩
  exact ⟨b, o, rfl, hlt, fun j hj => (hb.cell (p := ⟨b, o + j, none⟩) hlt).trans (hc j hj)⟩
theorem IntsIn.mono {B B' : Nat} {w : World} {A : Option Addr} {ks : List Int} (h : IntsIn B w A ks) (hB : B ≤ B') : IntsIn B' w A ks := by
  refine ⟨h.1, h.2.imp id ?_⟩
  rintro ⟨b, o, rfl, hlt, hc⟩
  exact ⟨b, o, rfl, by omega, hc⟩
theorem IntsIn.take {B : Nat} {w : World} {A : Option Addr} {ks : List Int} (h : IntsIn B w A ks) (n : Nat) : IntsIn B w A (ks.take n) := by
  have hl : (ks.take n).length ≤ ks.length := by simp; omega
  refine ⟨by have := h.1; omega, ?_⟩
  rcases h.2 with rfl | ⟨b, o, rfl, hlt, hc⟩
  · left; simp
  · right
    refine ⟨b, o, rfl, hlt, fun j hj => ?_⟩
    rw [hc j (by omega), nth_take]
    simp at hj; omega
/-- where there is an element there is an address -/
theorem IntsIn.at_ {B : Nat} {w : World} {A : Option Addr} {ks : List Int} (h : IntsIn B w A ks) (hn : 0 < ks.length) :
    ∃ b o, A = some ⟨b, o, none⟩ ∧ b < B ∧ ∀ j, j < ks.length → w.cell? ⟨b, o + j, none⟩ = some (.int .i64 (nth ks j)) := by
  rcases h.2 with rfl | h
  · simp at hn
  · exact h

def wrap31 (n : Int) : Int := (n + 1073741824) % 2147483648 - 1073741824
theorem wrap31_eq (n : Int) : wrap64 (wrap32 (n % 4294967296 * 2 % 4294967296) / 2) = wrap31 n := by
  unfold wrap64 wrap32 wrap31; omega
end Go.Proofs.Ytnobggabjpcbfaa

/-
  The evaluator of core terms in plain Lean: what the program's ceval and the document's answer both compute.
-/
set_option linter.unusedVariables false
set_option linter.unusedSimpArgs false
namespace Go.Proofs.Ytnobggabjpcbfaa

/-- a value -/
inductive PV where
  | int (n : Int)
  | blk (tag : Int) (kids : List PV)
  | fn (i : Nat)
  | ref (i : Nat)
instance : Inhabited PV := ⟨.int 0⟩
abbrev PEnv := List (Int × PV)
inductive Res where
  | val (v : PV)
  | raised (v : PV)
  | stuck
  | cut
/-- a value's key -/
def keyOf : PV → Option Int
  | .int n => some n
  | .blk t _ => some t
  | _ => none
def numOf : PV → Option Int
  | .int n => some n
  | _ => none

def lookup (e : PEnv) (x : Int) : Option PV := (e.find? (fun p => p.1 == x)).map (·.2)

/-- the place of a key among some, from 1 on; 0: none -/
def whichAt (keys : List Int) (key : Int) : Nat := match keys.findIdx? (· == key) with | some i => i + 1 | none => 0

/-- what is done with two ints -/
def doP (p a b : Int) : Option Int :=
  let a := wrap31 a
  let b := wrap31 b
  if (p = 4 ∨ p = 5) ∧ b = 0 then none
  else some (wrap31 (if p = 1 then a + b else if p = 2 then a - b else if p = 3 then a * b else if p = 4 then a.tdiv b else if p = 5 then a.tmod b
    else if p = 6 then (if a = b then 1 else 0) else if p = 7 then (if a ≠ b then 1 else 0) else if p = 8 then (if a < b then 1 else 0) else (if a ≤ b then 1 else 0)))

/-- how a run ends: kind, N, what was printed, steps -/
structure PEnd where
  kind : Int
  n : Int
  out : List Int
  steps : Nat
/-- fuel as a run takes it -/
def fuelOf (f : Int) : Nat := (min (max f 0) 1000000).toNat
end Go.Proofs.Ytnobggabjpcbfaa

/-
  Flat programs in plain Lean: what stands for one in memory, and the evaluator: what the program's feval and the document's answer both compute.
-/
set_option linter.unusedVariables false
set_option linter.unusedSimpArgs false
namespace Go.Proofs.Ytnobggabjpcbfaa
open Go.RowKit

/-- an atom -/
structure Atm where
  v : Bool
  n : Int
instance : Inhabited Atm := ⟨⟨false, 0⟩⟩
/-- a body: its binds, one after another, and what it answers -/
inductive Anf where
  | ret (a : Atm)
  | bind (x k n : Int) (ats : List Atm) (ks : List Int) (bl : List Anf) (rest : Anf)
instance : Inhabited Anf := ⟨.ret default⟩
/-- how many binds stand at the body's own level -/
def Anf.len : Anf → Nat
  | .ret _ => 0
  | .bind _ _ _ _ _ _ r => r.len + 1
def Anf.last : Anf → Atm
  | .ret a => a
  | .bind _ _ _ _ _ _ r => r.last
/-- the body without its first binds -/
def Anf.tail : Anf → Nat → Anf
  | a, 0 => a
  | .ret a, _ => .ret a
  | .bind _ _ _ _ _ _ r, i + 1 => r.tail i
theorem Anf.tail_zero (a : Anf) : a.tail 0 = a := by cases a <;> rfl
/-- where a bind is left, it stands there -/
theorem Anf.tail_bind : ∀ (a : Anf) (i : Nat), i < a.len → ∃ x k n ats ks bl, a.tail i = .bind x k n ats ks bl (a.tail (i + 1))
  | .ret a, i, h => absurd h (Nat.not_lt_zero _)
  | .bind x k n ats ks bl r, 0, _ => ⟨x, k, n, ats, ks, bl, by simp [Anf.tail, Anf.tail_zero]⟩
  | .bind x k n ats ks bl r, i + 1, h => r.tail_bind i (by simp only [Anf.len] at h; omega)
theorem Anf.tail_ret : ∀ (a : Anf) (i : Nat), a.len ≤ i → a.tail i = .ret a.last
  | .ret a, 0, _ => rfl
  | .ret a, _ + 1, _ => rfl
  | .bind .., 0, h => by simp [Anf.len] at h
  | .bind _ _ _ _ _ _ r, i + 1, h => r.tail_ret i (by simp only [Anf.len] at h; omega)

/-- a function, a flat program -/
structure FFun where
  env : Int
  param : Int
  body : Anf
instance : Inhabited FFun := ⟨⟨0, 0, default⟩⟩
structure FlatP where
  funs : List FFun
  main : Anf

/-- atoms in memory, in blocks below B: two cells each -/
def AtomsIn (B : Nat) (w : World) (A : Option Addr) (ats : List Atm) : Prop :=
  ats.length * 16 ≤ 140737488351232 ∧ (ats = [] ∨ ∃ b o, A = some ⟨b, o, none⟩ ∧ b < B ∧ ∀ j, j < ats.length → w.cell? ⟨b, o + j * 2, none⟩ = some (.bool (ats[j]?.getD default).v) ∧ w.cell? ⟨b, o + j * 2 + 1, none⟩ = some (.int .i64 (ats[j]?.getD default).n))
theorem AtomsIn.below {B : Nat} {w w' : World} {A : Option Addr} {ats : List Atm} (h : AtomsIn B w A ats) (hb : Below B w w') : AtomsIn B w' A ats := by
  refine ⟨h.1, h.2.imp id ?_⟩
  rintro ⟨b, o, rfl, hlt, hc⟩
  exact ⟨b, o, rfl, hlt, fun j hj => ⟨(hb.cell (p := ⟨b, o + j * 2, none⟩) hlt).trans (hc j hj).1, (hb.cell (p := ⟨b, o + j * 2 + 1, none⟩) hlt).trans (hc j hj).2⟩⟩
theorem AtomsIn.mono {B B' : Nat} {w : World} {A : Option Addr} {ats : List Atm} (h : AtomsIn B w A ats) (hB : B ≤ B') : AtomsIn B' w A ats := by
  refine ⟨h.1, h.2.imp id ?_⟩
  rintro ⟨b, o, rfl, hlt, hc⟩
  exact ⟨b, o, rfl, by omega, hc⟩

/-! ### the evaluator -/
/-- a run's state: steps that are left, closures that were made (a function's number, what is held), cells, what was printed, how many ints were asked for -/
structure FSt where
  left : Nat
  made : List (Int × List PV)
  cells : List PV
  out : List Int
  asked : Nat
abbrev FOut := Res × FSt
def FOut.andThen (o : FOut) (f : PV → FSt → FOut) : FOut :=
  match o with
  | (.val v, s) => f v s
  | (.raised v, s) => (.raised v, s)
  | (.stuck, s) => (.stuck, s)
  | (.cut, s) => (.cut, s)
def atomP (e : PEnv) (a : Atm) : Option PV := if a.v then lookup e a.n else some (.int a.n)
def atomsP (e : PEnv) : List Atm → Option (List PV)
  | [] => some []
  | a :: ats => match atomP e a with | some v => (atomsP e ats).map (v :: ·) | none => none
section
variable (funs : List FFun) (inp : List Int) (rec : Anf → PEnv → FSt → FOut)
def callF (f a : PV) (s : FSt) : FOut :=
  match f with
  | .fn i => if s.left = 0 then (.cut, s) else
      match s.made[i]? with
      | some c => (match funs[c.1.toNat]? with | some g => rec g.body [(g.param, a), (g.env, f)] { s with left := s.left - 1 } | none => (.stuck, s))
      | none => (.stuck, s)
  | _ => (.stuck, s)
def readF (s : FSt) : FOut :=
  if s.asked < inp.length then (.val (.int (wrap31 (nth inp s.asked))), { s with asked := s.asked + 1 })
  else (.raised (.int 1), { s with asked := s.asked + 1 })
def primF (p : Int) (l : List PV) (s : FSt) : FOut :=
  let a := l[0]?.getD default
  let b := l[1]?.getD default
  if p = 10 then (.val (.ref s.cells.length), { s with cells := s.cells ++ [a] })
  else if p = 11 then (match a with | .ref i => (.val (s.cells[i]?.getD default), s) | _ => (.stuck, s))
  else if p = 12 then (match a with | .ref i => (.val (.int 0), { s with cells := s.cells.set i b }) | _ => (.stuck, s))
  else if p = 13 then (match a with | .int n => (.val (.int 0), { s with out := s.out ++ [n] }) | _ => (.stuck, s))
  else if p = 14 then readF inp s
  else if p = 15 then (match keyOf a with | some _ => (.raised a, s) | none => (.stuck, s))
  else if p = 16 then (match callF funs rec a (.int 0) s with | (.raised v, s') => callF funs rec b v s' | o => o)
  else match a, b with
    | .int x, .int y => (match doP p x y with | some n => (.val (.int n), s) | none => (.raised (.int 0), s))
    | _, _ => (.stuck, s)
def fieldF (v : PV) (n : Int) (s : FSt) : FOut :=
  match v with
  | .blk _ l => if 0 ≤ n ∧ n < l.length then (.val (l[n.toNat]?.getD default), s) else (.stuck, s)
  | .fn i => if 1 ≤ n ∧ n ≤ (s.made[i]?.getD default).2.length then (.val ((s.made[i]?.getD default).2[(n - 1).toNat]?.getD default), s) else (.stuck, s)
  | _ => (.stuck, s)
/-- a right side, its atoms' values being known -/
def rhsF (k n : Int) (l : List PV) (ks : List Int) (bl : List Anf) (e : PEnv) (s : FSt) : FOut :=
  if k = 1 then (.val (l[0]?.getD default), s)
  else if k = 3 then (.val (.blk n l), s)
  else if k = 9 then (.val (.fn s.made.length), { s with made := s.made ++ [(n, l)] })
  else if k = 4 then fieldF (l[0]?.getD default) n s
  else if k = 6 then callF funs rec (l[0]?.getD default) (l[1]?.getD default) s
  else if k = 8 then (match keyOf (l[0]?.getD default) with | some key => rec (bl[whichAt ks key]?.getD default) e s | none => (.stuck, s))
  else primF funs inp rec n l s
/-- closures that know one another -/
def groupEnv : List Int → Nat → PEnv → PEnv
  | x :: _ :: _ :: ks, i, e => groupEnv ks (i + 1) ((x, .fn i) :: e)
  | _, _, e => e
def groupMade : List Int → List PV → List (Int × List PV)
  | _ :: f :: h :: ks, l => (f, l.take h.toNat) :: groupMade ks (l.drop h.toNat)
  | _, _ => []
/-- a bind, a step having been taken, and what stands behind it -/
def bindF (x k n : Int) (ats : List Atm) (ks : List Int) (bl : List Anf) (rest : Anf) (e : PEnv) (s : FSt) : FOut :=
  if k = 10 then
    let e' := groupEnv ks s.made.length e
    match atomsP e' ats with
    | some l => rec rest e' { s with made := s.made ++ groupMade ks l }
    | none => (.stuck, s)
  else match atomsP e ats with
    | some l => FOut.andThen (rhsF funs inp rec k n l ks bl e s) fun v s => rec rest ((x, v) :: e) s
    | none => (.stuck, s)
end
/-- a body: n bounds how deep the evaluation goes -/
def evF (funs : List FFun) (inp : List Int) : Nat → Anf → PEnv → FSt → FOut
  | 0, _, _, s => (.cut, s)
  | _ + 1, .ret a, e, s => (match atomP e a with | some v => (.val v, s) | none => (.stuck, s))
  | m + 1, .bind x k n ats ks bl rest, e, s => if s.left = 0 then (.cut, s) else bindF funs inp (evF funs inp m) x k n ats ks bl rest e { s with left := s.left - 1 }
def endF (fuel : Nat) : FOut → PEnd
  | (.val _, s) => ⟨1, 0, s.out, fuel - s.left⟩
  | (.raised v, s) => if 0 ≤ (keyOf v).getD 0 then ⟨2, (keyOf v).getD 0, s.out, fuel - s.left⟩ else ⟨4, 0, s.out, fuel - s.left⟩
  | (.stuck, s) => ⟨4, 0, s.out, fuel - s.left⟩
  | (.cut, s) => ⟨3, 0, s.out, fuel - s.left⟩
def initF (fuel : Nat) : FSt := ⟨fuel, [], [], [], 0⟩
def runF (p : FlatP) (inp : List Int) (f : Int) : FOut := evF p.funs (inp.take 4096) (fuelOf f + 1) p.main [] (initF (fuelOf f))
end Go.Proofs.Ytnobggabjpcbfaa

/-
  The plain evaluator of flat programs: what a run's state may become.
-/
set_option linter.unusedVariables false
set_option linter.unusedSimpArgs false
namespace Go.Proofs.Ytnobggabjpcbfaa

/-- what a state may become -/
structure LeF (s s' : FSt) (k : Nat := 0) : Prop where
  left : s'.left ≤ s.left
  out : s'.out.length + s'.left ≤ s.out.length + s.left + k
  pre : s.out <+: s'.out
  asked : s.asked ≤ s'.asked
theorem LeF.refl (s : FSt) (k : Nat) : LeF s s k := ⟨Nat.le_refl _, by omega, List.prefix_refl _, Nat.le_refl _⟩
theorem LeF.trans {a b c : FSt} {k l : Nat} (h : LeF a b k) (h' : LeF b c l) : LeF a c (k + l) := ⟨Nat.le_trans h'.left h.left, by have := h.out; have := h'.out; omega, h.pre.trans h'.pre, Nat.le_trans h.asked h'.asked⟩
theorem LeF.mono {a b : FSt} {k l : Nat} (h : LeF a b k) (hkl : k ≤ l) : LeF a b l := ⟨h.left, by have := h.out; omega, h.pre, h.asked⟩
theorem andThenF_le {s : FSt} {o : FOut} {f : PV → FSt → FOut} {k l : Nat} (h : LeF s o.2 l) (hf : ∀ v s', LeF s' (f v s').2 k) : LeF s (FOut.andThen o f).2 (l + k) := by
  obtain ⟨r, s'⟩ := o
  cases r
  · exact h.trans (hf _ _)
  all_goals exact h.mono (by omega)
section
variable {funs : List FFun} {inp : List Int} {rec : Anf → PEnv → FSt → FOut} (hrec : ∀ t e s, LeF s (rec t e s).2)
include hrec
theorem callF_le (f a : PV) (s : FSt) : LeF s (callF funs rec f a s).2 := by
  unfold callF
  split
  · split
    · exact LeF.refl _ _
    · split
      · split
        · have h := hrec (‹FFun›).body [((‹FFun›).param, a), ((‹FFun›).env, .fn ‹Nat›)] { s with left := s.left - 1 }
          exact ⟨Nat.le_trans h.left (by simp), by have := h.out; simp at this ⊢; omega, h.pre, h.asked⟩
        · exact LeF.refl _ _
      · exact LeF.refl _ _
  · exact LeF.refl _ _
theorem primF_le (p : Int) (l : List PV) (s : FSt) : LeF s (primF funs inp rec p l s).2 1 := by
  unfold primF
  simp only []
  split
  · exact ⟨Nat.le_refl _, Nat.le_add_right _ _, List.prefix_refl _, Nat.le_refl _⟩
  split
  · split <;> exact LeF.refl _ _
  split
  · split
    · exact ⟨Nat.le_refl _, Nat.le_add_right _ _, List.prefix_refl _, Nat.le_refl _⟩
    · exact LeF.refl _ _
  split
  · split
    · exact ⟨Nat.le_refl _, by simp; omega, List.prefix_append _ _, Nat.le_refl _⟩
    · exact LeF.refl _ _
  split
  · unfold readF
    split <;> exact ⟨Nat.le_refl _, Nat.le_add_right _ _, List.prefix_refl _, Nat.le_succ _⟩
  split
  · split <;> exact LeF.refl _ _
  split
  · have h := callF_le (funs := funs) hrec (l[0]?.getD default) (.int 0) s
    split
    · rename_i v s' heq
      rw [heq] at h
      exact (h.trans (callF_le hrec _ _ _)).mono (by omega)
    · exact h.mono (by omega)
  split
  · split <;> exact LeF.refl _ _
  · exact LeF.refl _ _
omit hrec in
theorem fieldF_same (v : PV) (n : Int) (s : FSt) : (fieldF v n s).2 = s := by
  unfold fieldF
  split
  · split <;> rfl
  · split <;> rfl
  · rfl
theorem rhsF_le (k n : Int) (l : List PV) (ks : List Int) (bl : List Anf) (e : PEnv) (s : FSt) : LeF s (rhsF funs inp rec k n l ks bl e s).2 1 := by
  unfold rhsF
  split
  · exact LeF.refl _ _
  split
  · exact LeF.refl _ _
  split
  · exact ⟨Nat.le_refl _, Nat.le_add_right _ _, List.prefix_refl _, Nat.le_refl _⟩
  split
  · rw [fieldF_same]; exact LeF.refl _ _
  split
  · exact (callF_le hrec _ _ _).mono (by omega)
  split
  · split
    · exact (hrec _ _ _).mono (by omega)
    · exact LeF.refl _ _
  · exact primF_le hrec _ _ _
theorem bindF_le (x k n : Int) (ats : List Atm) (ks : List Int) (bl : List Anf) (rest : Anf) (e : PEnv) (s : FSt) : LeF s (bindF funs inp rec x k n ats ks bl rest e s).2 1 := by
  unfold bindF
  split
  · simp only []
    split
    · rename_i l _
      have h := hrec rest (groupEnv ks s.made.length e) { s with made := s.made ++ groupMade ks l }
      exact ⟨h.left, by have := h.out; simp at this ⊢; omega, h.pre, h.asked⟩
    · exact LeF.refl _ _
  · split
    · exact andThenF_le (l := 1) (k := 0) (rhsF_le hrec _ _ _ _ _ _ _) (fun v s' => hrec _ _ _)
    · exact LeF.refl _ _
end
theorem evF_le (funs : List FFun) (inp : List Int) : ∀ (n : Nat) (t : Anf) (e : PEnv) (s : FSt), LeF s (evF funs inp n t e s).2
  | 0, _, _, s => LeF.refl _ _
  | n + 1, .ret a, e, s => by
    unfold evF
    split <;> exact LeF.refl _ _
  | m + 1, .bind x k n ats ks bl rest, e, s => by
    unfold evF
    split
    · exact LeF.refl _ _
    · have h := bindF_le (funs := funs) (inp := inp) (evF_le funs inp m) x k n ats ks bl rest e { s with left := s.left - 1 }
      exact ⟨Nat.le_trans h.left (by simp), by have := h.out; simp at this ⊢; omega, h.pre, h.asked⟩
end Go.Proofs.Ytnobggabjpcbfaa

/-
  Flat programs in memory.
-/
set_option linter.unusedVariables false
set_option linter.unusedSimpArgs false
namespace Go.Proofs.Ytnobggabjpcbfaa
open Go.RowKit

/-- a body's binds from number i on, in the row at ⟨b, o⟩, six cells each -/
inductive AnfAt (B : Nat) (w : World) : Nat → Nat → Nat → Anf → Prop
  | ret (b o i : Nat) (a : Atm) : AnfAt B w b o i (.ret a)
  | bind {b o i : Nat} {x k n : Int} {ats : List Atm} {ks : List Int} {bl : List Anf} {rest : Anf} {Aa Ak Al : Option Addr} {ca ck cl bb oo : Nat} {AB : Nat → Option Addr} {CB BB OO : Nat → Nat} (hb : b < B)
      (c0 : w.cell? ⟨b, o + i * 6, none⟩ = some (.int .i64 x)) (c1 : w.cell? ⟨b, o + i * 6 + 1, none⟩ = some (.int .i64 k)) (c2 : w.cell? ⟨b, o + i * 6 + 2, none⟩ = some (.int .i64 n))
      (c3 : w.cell? ⟨b, o + i * 6 + 3, none⟩ = some (.slice Aa ats.length ca)) (c4 : w.cell? ⟨b, o + i * 6 + 4, none⟩ = some (.slice Ak ks.length ck)) (c5 : w.cell? ⟨b, o + i * 6 + 5, none⟩ = some (.slice Al bl.length cl))
      (ha : AtomsIn B w Aa ats) (hac : ats.length ≤ ca) (hk : IntsIn B w Ak ks) (hkc : ks.length ≤ ck) (hlc : bl.length ≤ cl) (hl8 : bl.length * 40 ≤ 140737488351232) (hA : 0 < bl.length → Al = some ⟨bb, oo, none⟩ ∧ bb < B)
      (d0 : ∀ j (h : j < bl.length), w.cell? ⟨bb, oo + j * 3, none⟩ = some (.slice (AB j) bl[j].len (CB j))) (d1 : ∀ j (h : j < bl.length), w.cell? ⟨bb, oo + j * 3 + 1, none⟩ = some (.bool bl[j].last.v)) (d2 : ∀ j (h : j < bl.length), w.cell? ⟨bb, oo + j * 3 + 2, none⟩ = some (.int .i64 bl[j].last.n))
      (hs : ∀ j (h : j < bl.length), bl[j].len ≤ CB j ∧ bl[j].len * 96 ≤ 140737488351232 ∧ (0 < bl[j].len → AB j = some ⟨BB j, OO j, none⟩)) (hsub : ∀ j (h : j < bl.length), AnfAt B w (BB j) (OO j) 0 bl[j])
      (hr : AnfAt B w b o (i + 1) rest) : AnfAt B w b o i (.bind x k n ats ks bl rest)
theorem AnfAt.kept {B : Nat} {w w' : World} (hb : Below B w w') {b o i : Nat} {t : Anf} (h : AnfAt B w b o i t) : AnfAt B w' b o i t := by
  induction h with
  | ret b o i a => exact .ret b o i a
  | bind hlt c0 c1 c2 c3 c4 c5 ha hac hk hkc hlc hl8 hA d0 d1 d2 hs hsub hr ih1 ih2 =>
    refine .bind hlt ((hb.cell (p := ⟨_, _, none⟩) hlt).trans c0) ((hb.cell (p := ⟨_, _, none⟩) hlt).trans c1) ((hb.cell (p := ⟨_, _, none⟩) hlt).trans c2) ((hb.cell (p := ⟨_, _, none⟩) hlt).trans c3) ((hb.cell (p := ⟨_, _, none⟩) hlt).trans c4) ((hb.cell (p := ⟨_, _, none⟩) hlt).trans c5)
      (ha.below hb) hac (hk.below hb) hkc hlc hl8 hA ?_ ?_ ?_ hs ih1 ih2
    · exact fun j hj => (hb.cell (p := ⟨_, _, none⟩) (hA (by omega)).2).trans (d0 j hj)
    · exact fun j hj => (hb.cell (p := ⟨_, _, none⟩) (hA (by omega)).2).trans (d1 j hj)
    · exact fun j hj => (hb.cell (p := ⟨_, _, none⟩) (hA (by omega)).2).trans (d2 j hj)
theorem AnfAt.mono {B B' : Nat} (hB : B ≤ B') {w : World} {b o i : Nat} {t : Anf} (h : AnfAt B w b o i t) : AnfAt B' w b o i t := by
  induction h with
  | ret b o i a => exact .ret b o i a
  | bind hlt c0 c1 c2 c3 c4 c5 ha hac hk hkc hlc hl8 hA d0 d1 d2 hs hsub hr ih1 ih2 =>
    exact .bind (Nat.lt_of_lt_of_le hlt hB) c0 c1 c2 c3 c4 c5 (ha.mono hB) hac (hk.mono hB) hkc hlc hl8 (fun h => ⟨(hA h).1, Nat.lt_of_lt_of_le (hA h).2 hB⟩) d0 d1 d2 hs ih1 ih2
/-- a body as a value: three cells -/
def BodyIn (B : Nat) (w : World) (t : Anf) (v : Array Value) : Prop :=
  ∃ A c b o, v = #[.slice A t.len c, .bool t.last.v, .int .i64 t.last.n] ∧ t.len ≤ c ∧ t.len * 96 ≤ 140737488351232 ∧ (0 < t.len → A = some ⟨b, o, none⟩) ∧ AnfAt B w b o 0 t
theorem BodyIn.kept {B : Nat} {w w' : World} (hb : Below B w w') {t : Anf} {v : Array Value} (h : BodyIn B w t v) : BodyIn B w' t v := by
  obtain ⟨A, c, b, o, h1, h2, h3, h4, h5⟩ := h
  exact ⟨A, c, b, o, h1, h2, h3, h4, h5.kept hb⟩
theorem BodyIn.mono {B B' : Nat} (hB : B ≤ B') {w : World} {t : Anf} {v : Array Value} (h : BodyIn B w t v) : BodyIn B' w t v := by
  obtain ⟨A, c, b, o, h1, h2, h3, h4, h5⟩ := h
  exact ⟨A, c, b, o, h1, h2, h3, h4, h5.mono hB⟩
/-- what stands from a bind on -/
theorem AnfAt.from_ {B : Nat} {w : World} {b o : Nat} : ∀ {t : Anf} {i : Nat}, AnfAt B w b o i t → ∀ j, AnfAt B w b o (i + j) (t.tail j) := by
  intro t i h j
  induction j generalizing t i with
  | zero => rw [Anf.tail_zero]; exact h
  | succ j ih =>
    cases h with
    | ret a => exact .ret _ _ _ _
    | bind hlt c0 c1 c2 c3 c4 c5 ha hac hk hkc hlc hl8 hA d0 d1 d2 hs hsub hr =>
      have := ih hr
      rw [show i + 1 + j = i + (j + 1) by omega] at this
      exact this
/-- a flat program as a value: four cells; its functions: five cells each -/
def FlatIn (B : Nat) (w : World) (p : FlatP) (v : Array Value) : Prop :=
  ∃ Af cf b o m0 m1 m2, v = #[.slice Af p.funs.length cf, m0, m1, m2] ∧ p.funs.length ≤ cf ∧ p.funs.length * 56 ≤ 140737488351232 ∧ BodyIn B w p.main #[m0, m1, m2] ∧ (0 < p.funs.length → Af = some ⟨b, o, none⟩ ∧ b < B) ∧
    ∀ j (h : j < p.funs.length), ∃ g0 g1 g2, w.cell? ⟨b, o + j * 5, none⟩ = some (.int .i64 p.funs[j].env) ∧ w.cell? ⟨b, o + j * 5 + 1, none⟩ = some (.int .i64 p.funs[j].param) ∧ w.cell? ⟨b, o + j * 5 + 2, none⟩ = some g0 ∧ w.cell? ⟨b, o + j * 5 + 3, none⟩ = some g1 ∧ w.cell? ⟨b, o + j * 5 + 4, none⟩ = some g2 ∧ BodyIn B w p.funs[j].body #[g0, g1, g2]
theorem FlatIn.kept {B : Nat} {w w' : World} (hb : Below B w w') {p : FlatP} {v : Array Value} (h : FlatIn B w p v) : FlatIn B w' p v := by
  obtain ⟨Af, cf, b, o, m0, m1, m2, h1, h2, h3, h4, h5, h6⟩ := h
  refine ⟨Af, cf, b, o, m0, m1, m2, h1, h2, h3, h4.kept hb, h5, fun j hj => ?_⟩
  obtain ⟨g0, g1, g2, e0, e1, e2, e3, e4, e5⟩ := h6 j hj
  have hlt := (h5 (by omega)).2
  exact ⟨g0, g1, g2, (hb.cell (p := ⟨_, _, none⟩) hlt).trans e0, (hb.cell (p := ⟨_, _, none⟩) hlt).trans e1, (hb.cell (p := ⟨_, _, none⟩) hlt).trans e2, (hb.cell (p := ⟨_, _, none⟩) hlt).trans e3, (hb.cell (p := ⟨_, _, none⟩) hlt).trans e4, e5.kept hb⟩
theorem FlatIn.mono {B B' : Nat} (hB : B ≤ B') {w : World} {p : FlatP} {v : Array Value} (h : FlatIn B w p v) : FlatIn B' w p v := by
  obtain ⟨Af, cf, b, o, m0, m1, m2, h1, h2, h3, h4, h5, h6⟩ := h
  refine ⟨Af, cf, b, o, m0, m1, m2, h1, h2, h3, h4.mono hB, fun h => ⟨(h5 h).1, Nat.lt_of_lt_of_le (h5 h).2 hB⟩, fun j hj => ?_⟩
  obtain ⟨g0, g1, g2, e0, e1, e2, e3, e4, e5⟩ := h6 j hj
  exact ⟨g0, g1, g2, e0, e1, e2, e3, e4, e5.mono hB⟩
end Go.Proofs.Ytnobggabjpcbfaa

/-
  Flat programs: how many parts a body has, as the statements' Nodes counts them (plain).
-/
set_option linter.unusedVariables false
set_option linter.unusedSimpArgs false
namespace Go.Proofs.Ytnobggabjpcbfaa

mutual
/-- what Nodes has counted behind a chain of binds, some having been counted already -/
def nodesA : Anf → Int → Int → Int
  | .ret _, _, n => n
  | .bind _ _ _ ats ks bl rest, most, n => if n < most then nodesA rest most (nodesLA bl most (n + (1 + ats.length + ks.length))) else n
def nodesLA : List Anf → Int → Int → Int
  | [], _, n => n
  | c :: cs, most, n => if n < most then nodesLA cs most (n + nodesA c (most - n) 1) else n
end
mutual
theorem nodesA_ge : ∀ (t : Anf) (most n : Int), n ≤ nodesA t most n
  | .ret _, _, n => by simp [nodesA]
  | .bind _ _ _ ats ks bl rest, most, n => by
    unfold nodesA
    split
    · have h1 := nodesLA_ge bl most (n + (1 + ats.length + ks.length))
      have h2 := nodesA_ge rest most (nodesLA bl most (n + (1 + ats.length + ks.length)))
      omega
    · omega
theorem nodesLA_ge : ∀ (l : List Anf) (most n : Int), n ≤ nodesLA l most n
  | [], _, n => by simp [nodesLA]
  | c :: cs, most, n => by
    unfold nodesLA
    split
    · have h1 := nodesA_ge c (most - n) 1
      have h2 := nodesLA_ge cs most (n + nodesA c (most - n) 1)
      omega
    · omega
end
mutual
/-- all parts of a body -/
def partsA : Anf → Nat
  | .ret _ => 0
  | .bind _ _ _ ats ks bl rest => 1 + ats.length + ks.length + partsLA bl + partsA rest
def partsLA : List Anf → Nat
  | [] => 0
  | c :: cs => 1 + partsA c + partsLA cs
end
mutual
/-- a count that stays below the bound is the whole count -/
theorem nodesA_all : ∀ (t : Anf) (most n : Int), nodesA t most n < most → nodesA t most n = n + partsA t
  | .ret _, most, n, _ => by simp [nodesA, partsA]
  | .bind _ _ _ ats ks bl rest, most, n, h => by
    unfold nodesA at h ⊢
    split at h
    · rename_i hn
      rw [if_pos hn]
      have h1 := nodesA_ge rest most (nodesLA bl most (n + (1 + ats.length + ks.length)))
      have h2 := nodesLA_all bl most (n + (1 + ats.length + ks.length)) (by omega)
      rw [nodesA_all rest most _ h, h2]
      simp only [partsA]
      omega
    · omega
theorem nodesLA_all : ∀ (l : List Anf) (most n : Int), nodesLA l most n < most → nodesLA l most n = n + partsLA l
  | [], most, n, _ => by simp [nodesLA, partsLA]
  | c :: cs, most, n, h => by
    unfold nodesLA at h ⊢
    split at h
    · rename_i hn
      rw [if_pos hn]
      have h1 := nodesLA_ge cs most (n + nodesA c (most - n) 1)
      have h2 := nodesA_all c (most - n) 1 (by omega)
      rw [nodesLA_all cs most _ h, h2]
      simp only [partsLA]
      omega
    · omega
end
end Go.Proofs.Ytnobggabjpcbfaa

/-
  Flat programs: a count of parts is no great number.
-/
set_option linter.unusedVariables false
set_option linter.unusedSimpArgs false
namespace Go.Proofs.Ytnobggabjpcbfaa
open Go.RowKit

theorem nodesLA_le {M : Int} (hM : 1 ≤ M) : ∀ (l : List Anf), (∀ c ∈ l, ∀ most n : Int, nodesA c most n ≤ max n (most + M)) → ∀ most n : Int, nodesLA l most n ≤ max n (most + M)
  | [], _, most, n => by simp only [nodesLA]; omega
  | c :: cs, h, most, n => by
    unfold nodesLA
    split
    · rename_i hn
      have h1 := h c (by simp) (most - n) 1
      have h2 := nodesLA_le hM cs (fun c' hc => h c' (by simp [hc])) most (n + nodesA c (most - n) 1)
      omega
    · omega
theorem nodesA_le {B : Nat} {w : World} {b o i : Nat} {t : Anf} (h : AnfAt B w b o i t) : ∀ most n : Int, nodesA t most n ≤ max n (most + 27000000000000) := by
  induction h with
  | ret b o i a => intro most n; simp only [nodesA]; omega
  | @bind b o i x k n ats ks bl rest Aa Ak Al ca ck cl bb oo AB CB BB OO hlt c0 c1 c2 c3 c4 c5 ha hac hk hkc hlc hl8 hA d0 d1 d2 hs hsub hr ih1 ih2 =>
    intro most n
    have hal := ha.1
    have hkl := hk.1
    unfold nodesA
    split
    · rename_i hn
      have h1 := nodesLA_le (M := 27000000000000) (by decide) bl (fun c hc => by
        obtain ⟨j, hj, rfl⟩ := List.getElem_of_mem hc
        exact ih1 j hj) most (n + (1 + ats.length + ks.length))
      have h2 := ih2 most (nodesLA bl most (n + (1 + ats.length + ks.length)))
      omega
    · omega
/-- a bind's blocks are smaller -/
theorem size_tail : ∀ (t : Anf) (i : Nat), SizeOf.sizeOf (t.tail i) ≤ SizeOf.sizeOf t
  | .ret a, 0 => Nat.le_refl _
  | .ret a, _ + 1 => Nat.le_refl _
  | .bind .., 0 => Nat.le_refl _
  | .bind x k n ats ks bl r, i + 1 => by
    have := size_tail r i
    simp only [Anf.tail, Anf.bind.sizeOf_spec]
    omega
theorem size_block {t : Anf} {i : Nat} {x k n : Int} {ats : List Atm} {ks : List Int} {bl : List Anf} {rest c : Anf} (h : t.tail i = .bind x k n ats ks bl rest) (hc : c ∈ bl) : SizeOf.sizeOf c < SizeOf.sizeOf t := by
  have h1 := size_tail t i
  rw [h] at h1
  have h2 := List.sizeOf_lt_of_mem hc
  simp only [Anf.bind.sizeOf_spec] at h1
  omega
/-- a count's next step: a bind -/
theorem nodesA_step {t : Anf} {i : Nat} {x k m : Int} {ats : List Atm} {ks : List Int} {bl : List Anf} (h : t.tail i = .bind x k m ats ks bl (t.tail (i + 1))) {most n : Int} (hn : n < most) : nodesA (t.tail i) most n = nodesA (t.tail (i + 1)) most (nodesLA bl most (n + (1 + ats.length + ks.length))) := by
  rw [h, nodesA, if_pos hn]
theorem nodesA_stop {t : Anf} {most n : Int} (hn : ¬ n < most) : nodesA t most n = n := by
  cases t with
  | ret a => rfl
  | bind x k m ats ks bl rest => rw [nodesA, if_neg hn]
theorem nodesLA_step {l : List Anf} {j : Nat} (hj : j < l.length) {most n : Int} (hn : n < most) : nodesLA (l.drop j) most n = nodesLA (l.drop (j + 1)) most (n + nodesA l[j] (most - n) 1) := by
  rw [List.drop_eq_getElem_cons hj, nodesLA, if_pos hn]
theorem nodesLA_stop {l : List Anf} {most n : Int} (hn : ¬ n < most) : nodesLA l most n = n := by
  cases l with
  | nil => rfl
  | cons c cs => rw [nodesLA, if_neg hn]
end Go.Proofs.Ytnobggabjpcbfaa

/-
  Flat programs in memory: a bind opened.
-/
set_option linter.unusedVariables false
set_option linter.unusedSimpArgs false
namespace Go.Proofs.Ytnobggabjpcbfaa
open Go.RowKit

/-- a bind in memory: its six cells, its lists, its blocks -/
structure BindIn (B : Nat) (w : World) (b o : Nat) (x k n : Int) (ats : List Atm) (ks : List Int) (bl : List Anf) (Aa : Option Addr) (ca : Nat) (Ak : Option Addr) (ck : Nat) (Al : Option Addr) (cl : Nat) : Prop where
  lt : b < B
  c0 : w.cell? ⟨b, o, none⟩ = some (.int .i64 x)
  c1 : w.cell? ⟨b, o + 1, none⟩ = some (.int .i64 k)
  c2 : w.cell? ⟨b, o + 2, none⟩ = some (.int .i64 n)
  c3 : w.cell? ⟨b, o + 3, none⟩ = some (.slice Aa ats.length ca)
  c4 : w.cell? ⟨b, o + 4, none⟩ = some (.slice Ak ks.length ck)
  c5 : w.cell? ⟨b, o + 5, none⟩ = some (.slice Al bl.length cl)
  ha : AtomsIn B w Aa ats
  hac : ats.length ≤ ca
  hk : IntsIn B w Ak ks
  hkc : ks.length ≤ ck
  hlc : bl.length ≤ cl
  hl8 : bl.length * 40 ≤ 140737488351232
  blk : ∀ j (h : j < bl.length), ∃ bb oo g0 g1 g2, Al = some ⟨bb, oo, none⟩ ∧ bb < B ∧ w.cell? ⟨bb, oo + j * 3, none⟩ = some g0 ∧ w.cell? ⟨bb, oo + j * 3 + 1, none⟩ = some g1 ∧ w.cell? ⟨bb, oo + j * 3 + 2, none⟩ = some g2 ∧ BodyIn B w bl[j] #[g0, g1, g2]
theorem AnfAt.bind_ {B : Nat} {w : World} {b o i : Nat} {x k n : Int} {ats : List Atm} {ks : List Int} {bl : List Anf} {rest : Anf} (h : AnfAt B w b o i (.bind x k n ats ks bl rest)) : ∃ Aa ca Ak ck Al cl, BindIn B w b (o + i * 6) x k n ats ks bl Aa ca Ak ck Al cl := by
  cases h with
  | bind hlt c0 c1 c2 c3 c4 c5 ha hac hk hkc hlc hl8 hA d0 d1 d2 hs hsub hr =>
    refine ⟨_, _, _, _, _, _, ⟨hlt, c0, c1, c2, c3, c4, c5, ha, hac, hk, hkc, hlc, hl8, fun j hj => ?_⟩⟩
    obtain ⟨h1, h2⟩ := hA (by omega)
    obtain ⟨e1, e2, e3⟩ := hs j hj
    exact ⟨_, _, _, _, _, h1, h2, d0 j hj, d1 j hj, d2 j hj, _, _, _, _, rfl, e1, e2, e3, hsub j hj⟩
/-- the bind at a place of a body -/
theorem BodyIn.at_ {B : Nat} {w : World} {t : Anf} {v : Array Value} (h : BodyIn B w t v) : ∃ A c b o, v = #[.slice A t.len c, .bool t.last.v, .int .i64 t.last.n] ∧ t.len ≤ c ∧ t.len * 96 ≤ 140737488351232 ∧ (0 < t.len → A = some ⟨b, o, none⟩) ∧
    ∀ i, i < t.len → ∃ x k n ats ks bl Aa ca Ak ck Al cl, t.tail i = .bind x k n ats ks bl (t.tail (i + 1)) ∧ BindIn B w b (o + i * 6) x k n ats ks bl Aa ca Ak ck Al cl := by
  obtain ⟨A, c, b, o, h1, h2, h3, h4, h5⟩ := h
  refine ⟨A, c, b, o, h1, h2, h3, h4, fun i hi => ?_⟩
  obtain ⟨x, k, n, ats, ks, bl, he⟩ := t.tail_bind i hi
  have h6 := h5.from_ i
  rw [he, Nat.zero_add] at h6
  obtain ⟨Aa, ca, Ak, ck, Al, cl, h7⟩ := h6.bind_
  exact ⟨x, k, n, ats, ks, bl, Aa, ca, Ak, ck, Al, cl, he, h7⟩
end Go.Proofs.Ytnobggabjpcbfaa

/-
  Flat programs: the plain law of a function that is not called.
-/
set_option linter.unusedVariables false
set_option linter.unusedSimpArgs false
namespace Go.Proofs.Ytnobggabjpcbfaa

/-- a group's functions are some -/
def grpOk (nf : Nat) : List Int → Prop
  | _ :: f :: _ :: ks => 0 ≤ f ∧ f < nf ∧ grpOk nf ks
  | _ => True
/-- a body whose closures' functions are among the first nf -/
inductive OkA (nf : Nat) : Anf → Prop
  | ret (a : Atm) : OkA nf (.ret a)
  | bind {x k n : Int} {ats : List Atm} {ks : List Int} {bl : List Anf} {rest : Anf} (hk : k = 9 → 0 ≤ n ∧ n < nf) (hg : k = 10 → grpOk nf ks) (hb : ∀ c ∈ bl, OkA nf c) (hr : OkA nf rest) : OkA nf (.bind x k n ats ks bl rest)
def MadeOk (nf : Nat) (s : FSt) : Prop := ∀ c ∈ s.made, c.1.toNat < nf
theorem groupMade_ok {nf : Nat} : ∀ (ks : List Int) (l : List PV), grpOk nf ks → ∀ c ∈ groupMade ks l, c.1.toNat < nf
  | x :: f :: h :: ks, l, hg => by
    intro c hc
    simp only [groupMade, List.mem_cons] at hc
    rcases hc with rfl | hc
    · have := hg.1; have := hg.2.1; show f.toNat < nf; omega
    · exact groupMade_ok ks _ hg.2.2 c hc
  | [], l, _ => by simp [groupMade]
  | [_], l, _ => by simp [groupMade]
  | [_, _], l, _ => by simp [groupMade]
/-- two runs that are one, and what was made -/
def OneF (nf : Nat) (o o' : FOut) : Prop := o' = o ∧ MadeOk nf o.2
theorem OneF.andThen {nf : Nat} {o o' : FOut} {f f' : PV → FSt → FOut} (h : OneF nf o o') (hf : ∀ v s, MadeOk nf s → OneF nf (f v s) (f' v s)) : OneF nf (FOut.andThen o f) (FOut.andThen o' f') := by
  obtain ⟨rfl, h2⟩ := h
  obtain ⟨r, s1⟩ := o'
  cases r with
  | val v => exact hf v s1 h2
  | raised v => exact ⟨rfl, h2⟩
  | stuck => exact ⟨rfl, h2⟩
  | cut => exact ⟨rfl, h2⟩
section
variable {funs : List FFun} {more : FFun} {inp : List Int} {rec rec' : Anf → PEnv → FSt → FOut} (hf : ∀ g ∈ funs, OkA funs.length g.body) (hrec : ∀ t e s, OkA funs.length t → MadeOk funs.length s → OneF funs.length (rec t e s) (rec' t e s))
include hf hrec
theorem callF_one (f a : PV) (s : FSt) (hs : MadeOk funs.length s) : OneF funs.length (callF funs rec f a s) (callF (funs ++ [more]) rec' f a s) := by
  unfold callF
  cases f with
  | fn i =>
    simp only []
    by_cases h0 : s.left = 0
    · rw [if_pos h0, if_pos h0]; exact ⟨rfl, hs⟩
    · rw [if_neg h0, if_neg h0]
      cases hc : s.made[i]? with
      | none => exact ⟨rfl, hs⟩
      | some c =>
        have hlt := hs c (List.mem_of_getElem? hc)
        simp only []
        rw [List.getElem?_append_left hlt, List.getElem?_eq_getElem hlt]
        exact hrec _ _ { s with left := s.left - 1 } (hf _ (List.getElem_mem hlt)) hs
  | int m => exact ⟨rfl, hs⟩
  | blk t l => exact ⟨rfl, hs⟩
  | ref i => exact ⟨rfl, hs⟩
theorem primF_one (p : Int) (l : List PV) (s : FSt) (hs : MadeOk funs.length s) : OneF funs.length (primF funs inp rec p l s) (primF (funs ++ [more]) inp rec' p l s) := by
  unfold primF
  simp only []
  split
  · exact ⟨rfl, hs⟩
  split
  · refine ⟨rfl, ?_⟩; split <;> exact hs
  split
  · refine ⟨rfl, ?_⟩; split <;> exact hs
  split
  · refine ⟨rfl, ?_⟩; split <;> exact hs
  split
  · refine ⟨rfl, ?_⟩; unfold readF; split <;> exact hs
  split
  · refine ⟨rfl, ?_⟩; split <;> exact hs
  split
  · have h := callF_one (more := more) hf hrec (l[0]?.getD default) (.int 0) s hs
    have hr := fun v s1 (h1 : MadeOk funs.length s1) => callF_one (more := more) hf hrec (l[1]?.getD default) v s1 h1
    generalize callF funs rec (l[0]?.getD default) (.int 0) s = o at *
    generalize callF (funs ++ [more]) rec' (l[0]?.getD default) (.int 0) s = o' at *
    obtain ⟨rfl, h2⟩ := h
    obtain ⟨r, s1⟩ := o'
    cases r with
    | raised v => exact hr v s1 h2
    | val v => exact ⟨rfl, h2⟩
    | stuck => exact ⟨rfl, h2⟩
    | cut => exact ⟨rfl, h2⟩
  · refine ⟨rfl, ?_⟩
    split
    · split <;> exact hs
    · exact hs
theorem rhsF_one (k n : Int) (l : List PV) (ks : List Int) (bl : List Anf) (e : PEnv) (s : FSt) (hs : MadeOk funs.length s) (hk : k = 9 → 0 ≤ n ∧ n < funs.length) (hb : ∀ c ∈ bl, OkA funs.length c) : OneF funs.length (rhsF funs inp rec k n l ks bl e s) (rhsF (funs ++ [more]) inp rec' k n l ks bl e s) := by
  unfold rhsF
  split
  · exact ⟨rfl, hs⟩
  split
  · exact ⟨rfl, hs⟩
  split
  · rename_i h9
    refine ⟨rfl, fun c hc => ?_⟩
    rcases List.mem_append.1 hc with hc | hc
    · exact hs c hc
    · simp only [List.mem_singleton] at hc
      subst hc
      have := hk h9
      show n.toNat < _; omega
  split
  · exact ⟨rfl, by rw [fieldF_same]; exact hs⟩
  split
  · exact callF_one hf hrec _ _ _ hs
  split
  · split
    · rename_i key _
      refine hrec _ _ _ ?_ hs
      cases hc : bl[whichAt ks key]? with
      | none => exact .ret _
      | some c => exact hb c (List.mem_of_getElem? hc)
    · exact ⟨rfl, hs⟩
  · exact primF_one hf hrec _ _ _ hs
theorem bindF_one (x k n : Int) (ats : List Atm) (ks : List Int) (bl : List Anf) (rest : Anf) (e : PEnv) (s : FSt) (hs : MadeOk funs.length s) (ht : OkA funs.length (.bind x k n ats ks bl rest)) : OneF funs.length (bindF funs inp rec x k n ats ks bl rest e s) (bindF (funs ++ [more]) inp rec' x k n ats ks bl rest e s) := by
  cases ht with
  | bind hk hg hb hr =>
    unfold bindF
    split
    · rename_i h10
      simp only []
      generalize atomsP (groupEnv ks s.made.length e) ats = q
      cases q with
      | some l =>
        refine hrec _ _ _ hr (fun c hc => ?_)
        rcases List.mem_append.1 hc with hc | hc
        · exact hs c hc
        · exact groupMade_ok ks l (hg h10) c hc
      | none => exact ⟨rfl, hs⟩
    · generalize atomsP e ats = q
      cases q with
      | some l =>
        exact (rhsF_one (inp := inp) (more := more) hf hrec k n l ks bl e s hs hk hb).andThen (fun v s h2 => hrec _ _ _ hr h2)
      | none => exact ⟨rfl, hs⟩
end
theorem evF_one {funs : List FFun} (more : FFun) (inp : List Int) (hf : ∀ g ∈ funs, OkA funs.length g.body) : ∀ (n : Nat) (t : Anf) (e : PEnv) (s : FSt), OkA funs.length t → MadeOk funs.length s → OneF funs.length (evF funs inp n t e s) (evF (funs ++ [more]) inp n t e s)
  | 0, _, _, s, _, hs => ⟨rfl, hs⟩
  | n + 1, .ret a, e, s, _, hs => by
    unfold evF
    refine ⟨rfl, ?_⟩
    split <;> exact hs
  | n + 1, .bind x k m ats ks bl rest, e, s, ht, hs => by
    unfold evF
    by_cases h0 : s.left = 0
    · rw [if_pos h0, if_pos h0]; exact ⟨rfl, hs⟩
    · rw [if_neg h0, if_neg h0]
      exact bindF_one hf (evF_one more inp hf n) x k m ats ks bl rest e { s with left := s.left - 1 } hs ht
/-- **the law of a function that is not called** -/
theorem funs_ends {funs : List FFun} (more : FFun) {t : Anf} (inp : List Int) (F : Nat) (hf : ∀ g ∈ funs, OkA funs.length g.body) (ht : OkA funs.length t) :
    evF (funs ++ [more]) inp (F + 1) t [] (initF F) = evF funs inp (F + 1) t [] (initF F) :=
  (evF_one more inp hf (F + 1) t [] (initF F) ht (fun c hc => by simp [initF] at hc)).1
end Go.Proofs.Ytnobggabjpcbfaa

/-
  What clos.Right computes, in plain Lean; which flat programs may be.
-/
set_option linter.unusedVariables false
set_option linter.unusedSimpArgs false
namespace Go.Proofs.Ytnobggabjpcbfaa

def inB (n a b : Int) : Bool := decide (a ≤ n) && decide (n ≤ b)
theorem inB_iff {n a b : Int} : inB n a b = true ↔ a ≤ n ∧ n ≤ b := by simp [inB]
def twoF (p : Int) : Bool := decide (p ≤ 9) || decide (p = 12) || decide (p = 16)
def atomB (a : Atm) : Bool := a.v || inB a.n (-1073741824) 1073741823
def varB (n : Int) : Bool := inB n 0 65535
/-- the variables of a group, the functions, what they hold -/
def groupV : List Int → List Int
  | [] => []
  | [x] => [x]
  | [x, _] => [x]
  | x :: _ :: _ :: ks => x :: groupV ks
def groupF : List Int → List Int
  | _ :: f :: _ :: ks => f :: groupF ks
  | [_, f] => [f]
  | _ => []
def groupH : List Int → List Int
  | _ :: _ :: h :: ks => h :: groupH ks
  | _ => []
/-- which fields a kind has -/
def hasN (k : Int) : Bool := k == 2 || k == 3 || k == 4 || k == 9
def hasA (k : Int) : Bool := k == 1 || k == 6 || k == 2 || k == 3 || k == 4 || k == 9 || k == 8 || k == 10
def hasK (k : Int) : Bool := k == 8 || k == 10
def hasB (k : Int) : Bool := k == 8
def bareB (k n : Int) (na nk nb : Nat) : Bool := hasA k && (hasN k || n == 0) && (hasA k || na == 0) && (hasK k || nk == 0) && (hasB k || nb == 0)
def numberB (nf : Nat) (x k n : Int) (ats : List Atm) (ks : List Int) : Bool :=
  varB x && (k != 10 || (groupV ks).all varB) && (if k = 3 then inB n 0 1023 else if k = 4 then inB n 0 255 else if k = 9 then inB n 0 ((nf : Int) - 1) else true) && ats.all atomB
def sumL : List Int → Int
  | [] => 0
  | x :: l => x + sumL l
def countB (x k n : Int) (na : Nat) (ks : List Int) (nb : Nat) : Bool :=
  if k = 6 then na == 2
  else if k = 2 ∧ twoF n = true then na == 2
  else if k = 3 then inB na 1 8
  else if k = 9 then decide ((na : Int) ≤ 255)
  else if k = 8 then na == 1 && nb == ks.length + 1
  else if k = 10 then (groupH ks).all (fun h => inB h 0 255) && decide (3 ≤ ks.length) && ks.length % 3 == 0 && sumL (groupH ks) == (na : Int) && nth ks 0 == x
  else na == 1
def risingB (l : List Int) : Bool := l.all (fun h => inB h (-1073741824) 1073741823) && (List.range l.length).all (fun i => i == 0 || decide (nth l (i - 1) < nth l i))
def funsB (nf : Nat) (ks : List Int) : Bool := (groupF ks).all (fun f => inB f 0 ((nf : Int) - 1))
/-- what is wrong with a bind, but for its blocks -/
def bindE (nf : Nat) (x k n : Int) (ats : List Atm) (ks : List Int) (nb : Nat) : Int :=
  if bareB k n ats.length ks.length nb = false then 29
  else if numberB nf x k n ats ks = false then 2
  else if k = 2 ∧ inB n 1 16 = false then 28
  else if countB x k n ats.length ks nb = false then 19
  else if k = 10 ∧ funsB nf ks = false then 2
  else if k = 8 ∧ risingB ks = false then 3
  else 0
def asksB (kn : List Int) (a : Atm) : Bool := !a.v || kn.contains a.n
mutual
/-- what is wrong with a body, some variables being known -/
def bodyE (nf : Nat) (kn : List Int) : Anf → Int
  | .ret a => if atomB a = false then 2 else if asksB kn a = false then 16 else 0
  | .bind x k n ats ks bl rest =>
    if bindE nf x k n ats ks bl.length ≠ 0 then bindE nf x k n ats ks bl.length
    else if ats.all (asksB (if k = 10 then groupV ks ++ kn else kn)) = false then 16
    else if blocksE nf (if k = 10 then groupV ks ++ kn else kn) bl ≠ 0 then blocksE nf (if k = 10 then groupV ks ++ kn else kn) bl
    else bodyE nf (if k = 10 then groupV ks ++ kn else x :: kn) rest
def blocksE (nf : Nat) (kn : List Int) : List Anf → Int
  | [] => 0
  | c :: cs => if bodyE nf kn c ≠ 0 then bodyE nf kn c else blocksE nf kn cs
end
mutual
/-- binds in all blocks, at most some -/
def sizeA (most : Int) : Anf → Int → Int
  | .ret _, n => n
  | .bind _ _ _ _ _ bl r, n => let q := sizeL most bl n; if q.2 then q.1 else sizeA most r q.1
/-- the blocks of one bind: the count, and whether it came to its end early -/
def sizeL (most : Int) : List Anf → Int → Int × Bool
  | [], n => (n, false)
  | c :: cs, n => if n > most then (n, true) else sizeL most cs (n + sizeA most c c.len)
end
def sizeB (a : Anf) (most : Int) : Int := sizeA most a a.len
mutual
/-- how deep blocks stand in one another -/
def deepA : Anf → Nat → Int → Int
  | .ret _, _, n => n
  | .bind _ _ _ _ _ bl r, m, n => deepA r m (deepL bl m n)
def deepL : List Anf → Nat → Int → Int
  | [], _, n => n
  | c :: cs, 0, n => deepL cs 0 n
  | c :: cs, m + 1, n => deepL cs (m + 1) (max n (deepA c m 0 + 1))
end
def deepB (a : Anf) (most : Nat) : Int := deepA a most 0 + 1
def longB : List Anf → Int → Bool
  | [], _ => false
  | b :: bs, n => if n + sizeB b 65536 > 65536 ∨ deepB b 400 > 400 then true else longB bs (n + sizeB b 65536)
def funsE (nf : Nat) : List FFun → Int
  | [] => 0
  | g :: gs => if varB g.env = false ∨ varB g.param = false then 2 else if g.env = g.param then 9 else if bodyE nf [g.param, g.env] g.body ≠ 0 then bodyE nf [g.param, g.env] g.body else funsE nf gs
/-- **what clos.Right answers** -/
def rightC (p : FlatP) : Int :=
  if 1024 < p.funs.length then 6
  else if longB (p.funs.map (·.body) ++ [p.main]) 0 then 4
  else if funsE p.funs.length p.funs ≠ 0 then funsE p.funs.length p.funs
  else bodyE p.funs.length [] p.main

/-- a body that may be -/
inductive WfA (nf : Nat) : Anf → Prop
  | ret (a : Atm) : WfA nf (.ret a)
  | bind {x k n : Int} {ats : List Atm} {ks : List Int} {bl : List Anf} {rest : Anf} (he : bindE nf x k n ats ks bl.length = 0) (hb : ∀ c ∈ bl, WfA nf c) (hr : WfA nf rest) : WfA nf (.bind x k n ats ks bl rest)
theorem ite_zero {p : Prop} [Decidable p] {a b : Int} (h : (if p then a else b) = 0) (ha : p → a ≠ 0) : ¬ p ∧ b = 0 := by
  by_cases hp : p
  · rw [if_pos hp] at h; exact absurd h (ha hp)
  · rw [if_neg hp] at h; exact ⟨hp, h⟩
mutual
theorem wf_of_bodyE {nf : Nat} : ∀ (a : Anf) (kn : List Int), bodyE nf kn a = 0 → WfA nf a
  | .ret a, kn, _ => .ret a
  | .bind x k n ats ks bl rest, kn, h => by
    unfold bodyE at h
    obtain ⟨h1, h⟩ := ite_zero h (fun h => h)
    obtain ⟨h2, h⟩ := ite_zero h (fun _ => by decide)
    obtain ⟨h3, h⟩ := ite_zero h (fun h => h)
    exact .bind (by simpa using h1) (wf_of_blocksE bl _ (by simpa using h3)) (wf_of_bodyE rest _ h)
theorem wf_of_blocksE {nf : Nat} : ∀ (cs : List Anf) (kn : List Int), blocksE nf kn cs = 0 → ∀ c ∈ cs, WfA nf c
  | [], _, _ => fun c hc => by simp at hc
  | c :: cs, kn, h => by
    unfold blocksE at h
    obtain ⟨h1, h⟩ := ite_zero h (fun h => h)
    have h2 : WfA nf c := wf_of_bodyE c kn (by simpa using h1)
    have h3 := wf_of_blocksE cs kn h
    intro c' hc'
    rcases List.mem_cons.1 hc' with rfl | hc'
    · exact h2
    · exact h3 c' hc'
end
theorem wf_of_funsE {nf : Nat} : ∀ (gs : List FFun), funsE nf gs = 0 → ∀ g ∈ gs, WfA nf g.body
  | [], _ => fun c hc => by simp at hc
  | g :: gs, h => by
    unfold funsE at h
    obtain ⟨_, h⟩ := ite_zero h (fun _ => by decide)
    obtain ⟨_, h⟩ := ite_zero h (fun _ => by decide)
    obtain ⟨h1, h⟩ := ite_zero h (fun h => h)
    have h3 := wf_of_funsE gs h
    intro c' hc'
    rcases List.mem_cons.1 hc' with rfl | hc'
    · exact wf_of_bodyE _ _ (by simpa using h1)
    · exact h3 c' hc'
/-- **what a program is that may be** -/
theorem wf_of_rightC {p : FlatP} (h : rightC p = 0) : (∀ g ∈ p.funs, WfA p.funs.length g.body) ∧ WfA p.funs.length p.main := by
  unfold rightC at h
  obtain ⟨_, h⟩ := ite_zero h (fun _ => by decide)
  obtain ⟨_, h⟩ := ite_zero h (fun _ => by decide)
  obtain ⟨h1, h⟩ := ite_zero h (fun h => h)
  exact ⟨wf_of_funsE _ (by simpa using h1), wf_of_bodyE _ _ h⟩
/-! ### what a bind is that may be -/
structure BindOk (nf : Nat) (x k n : Int) (ats : List Atm) (ks : List Int) (nb : Nat) : Prop where
  bare : bareB k n ats.length ks.length nb = true
  number : numberB nf x k n ats ks = true
  prim : k = 2 → 1 ≤ n ∧ n ≤ 16
  count : countB x k n ats.length ks nb = true
  funs : k = 10 → funsB nf ks = true
theorem bindOk_of {nf : Nat} {x k n : Int} {ats : List Atm} {ks : List Int} {nb : Nat} (h : bindE nf x k n ats ks nb = 0) : BindOk nf x k n ats ks nb := by
  unfold bindE at h
  obtain ⟨h1, h⟩ := ite_zero h (fun _ => by decide)
  obtain ⟨h2, h⟩ := ite_zero h (fun _ => by decide)
  obtain ⟨h3, h⟩ := ite_zero h (fun _ => by decide)
  obtain ⟨h4, h⟩ := ite_zero h (fun _ => by decide)
  obtain ⟨h5, h⟩ := ite_zero h (fun _ => by decide)
  refine ⟨by simpa using h1, by simpa using h2, fun hk => ?_, by simpa using h4, fun hk => ?_⟩
  · exact inB_iff.1 (by simpa [hk] using h3)
  · simpa [hk] using h5
theorem BindOk.kind {nf : Nat} {x k n : Int} {ats : List Atm} {ks : List Int} {nb : Nat} (h : BindOk nf x k n ats ks nb) : k = 1 ∨ k = 2 ∨ k = 3 ∨ k = 4 ∨ k = 6 ∨ k = 8 ∨ k = 9 ∨ k = 10 := by
  have h1 := h.bare
  simp only [bareB, Bool.and_eq_true] at h1
  have h2 := h1.1.1.1.1
  simp [hasA] at h2
  omega
theorem BindOk.one {nf : Nat} {x k n : Int} {ats : List Atm} {ks : List Int} {nb : Nat} (h : BindOk nf x k n ats ks nb) (hk : k = 1 ∨ k = 4 ∨ k = 8) : ats.length = 1 := by
  have h1 := h.count
  unfold countB at h1
  rcases hk with rfl | rfl | rfl <;> simp at h1 <;> first | exact h1 | exact h1.1
theorem BindOk.app {nf : Nat} {x n : Int} {ats : List Atm} {ks : List Int} {nb : Nat} (h : BindOk nf x 6 n ats ks nb) : ats.length = 2 := by
  have h1 := h.count
  unfold countB at h1
  simpa using h1
theorem BindOk.primL {nf : Nat} {x n : Int} {ats : List Atm} {ks : List Int} {nb : Nat} (h : BindOk nf x 2 n ats ks nb) : ats.length = if twoF n then 2 else 1 := by
  have h1 := h.count
  unfold countB at h1
  cases ht : twoF n <;> simp [ht] at h1 ⊢ <;> exact h1
theorem BindOk.block {nf : Nat} {x n : Int} {ats : List Atm} {ks : List Int} {nb : Nat} (h : BindOk nf x 3 n ats ks nb) : 1 ≤ ats.length ∧ ats.length ≤ 8 := by
  have h1 := h.count
  unfold countB at h1
  simp [inB] at h1
  omega
theorem BindOk.close {nf : Nat} {x n : Int} {ats : List Atm} {ks : List Int} {nb : Nat} (h : BindOk nf x 9 n ats ks nb) : ats.length ≤ 255 ∧ 0 ≤ n ∧ n < nf := by
  have h1 := h.count
  unfold countB at h1
  simp at h1
  have h2 := h.number
  simp [numberB, inB] at h2
  omega
theorem BindOk.field {nf : Nat} {x n : Int} {ats : List Atm} {ks : List Int} {nb : Nat} (h : BindOk nf x 4 n ats ks nb) : 0 ≤ n ∧ n ≤ 255 := by
  have h2 := h.number
  simp [numberB, inB] at h2
  omega
theorem BindOk.switch {nf : Nat} {x n : Int} {ats : List Atm} {ks : List Int} {nb : Nat} (h : BindOk nf x 8 n ats ks nb) : nb = ks.length + 1 := by
  have h1 := h.count
  unfold countB at h1
  simp at h1
  exact h1.2
theorem BindOk.group {nf : Nat} {x n : Int} {ats : List Atm} {ks : List Int} {nb : Nat} (h : BindOk nf x 10 n ats ks nb) : (groupH ks).all (fun h => inB h 0 255) = true ∧ 3 ≤ ks.length ∧ ks.length % 3 = 0 ∧ sumL (groupH ks) = (ats.length : Int) ∧ (groupF ks).all (fun f => inB f 0 ((nf : Int) - 1)) = true := by
  have h1 := h.count
  unfold countB at h1
  simp only [show ¬ ((10 : Int) = 6) by decide, show ¬ ((10 : Int) = 2 ∧ twoF n = true) by simp, show ¬ ((10 : Int) = 3) by decide, show ¬ ((10 : Int) = 9) by decide, show ¬ ((10 : Int) = 8) by decide, if_false, if_true, Bool.and_eq_true, decide_eq_true_eq, beq_iff_eq] at h1
  exact ⟨h1.1.1.1.1, h1.1.1.1.2, h1.1.1.2, h1.1.2, h.funs rfl⟩
end Go.Proofs.Ytnobggabjpcbfaa

/-
  The flat evaluator in memory: what stands for values, environments, a run; what a step of the run may turn.
-/
set_option linter.unusedVariables false
set_option linter.unusedSimpArgs false
namespace Go.Proofs.Ytnobggabjpcbfaa
open Go.RowKit

/-! ### what a run may turn -/
/-- the blocks of closures, of cells; the value of what was printed -/
structure Mem where
  fa : List Nat
  ca : List Nat
  vo : Value
def Mem.mut (rb : Nat) (m : Mem) (k : Nat) : Prop := k = rb ∨ m.vo.ownBlock = some k ∨ k ∈ m.ca
structure Evo (rb : Nat) (m m' : Mem) (W W' : World) : Prop where
  os : W'.os = W.os
  tape : W'.tape = W.tape
  output : W'.output = W.output
  size : W.heap.size ≤ W'.heap.size
  same : ∀ k, k < W.heap.size → ¬ m.mut rb k → W'.heap[k]? = W.heap[k]?
  fresh : ∀ k, m'.mut rb k → m.mut rb k ∨ W.heap.size ≤ k
  fa : m.fa <+: m'.fa
  ca : m.ca <+: m'.ca
theorem Evo.refl (rb : Nat) (m : Mem) (W : World) : Evo rb m m W W := ⟨rfl, rfl, rfl, Nat.le_refl _, fun _ _ _ => rfl, fun _ h => .inl h, List.prefix_refl _, List.prefix_refl _⟩
theorem Evo.trans {rb : Nat} {a b c : Mem} {A B C : World} (h : Evo rb a b A B) (k : Evo rb b c B C) : Evo rb a c A C :=
  ⟨k.os.trans h.os, k.tape.trans h.tape, k.output.trans h.output, Nat.le_trans h.size k.size,
   fun i hi hm => (k.same i (Nat.lt_of_lt_of_le hi h.size) (fun hb => by rcases h.fresh i hb with hb | hb; exact hm hb; omega)).trans (h.same i hi hm),
   fun i hi => by
     rcases k.fresh i hi with hb | hb
     · exact h.fresh i hb
     · exact .inr (Nat.le_trans h.size hb),
   h.fa.trans k.fa, h.ca.trans k.ca⟩
theorem Evo.below {rb : Nat} {m : Mem} {W W' : World} (h : Below W.heap.size W W') : Evo rb m m W W' :=
  ⟨h.os, h.tape, h.output, h.size, fun k hk _ => h.block k hk, fun _ h => .inl h, List.prefix_refl _, List.prefix_refl _⟩
theorem Evo.alloc (rb : Nat) (m : Mem) (W : World) (o : Obj) : Evo rb m m W (W.alloc o) := Evo.below ((Below.refl _ _).alloc (Nat.le_refl _) _)
theorem Evo.setCell {rb : Nat} {m : Mem} (W : World) {b : Nat} (o : Nat) (v : Value) (hb : m.mut rb b) : Evo rb m m W (W.setCell ⟨b, o, none⟩ v) :=
  ⟨rfl, rfl, rfl, by simp [World.setCell], fun k hk hm => Below.heap_setCell W _ _ k (fun e => hm (by subst e; exact hb)), fun _ h => .inl h, List.prefix_refl _, List.prefix_refl _⟩
theorem Evo.drew {rb : Nat} {m m' : Mem} {W W' : World} (h : Evo rb m m' W W') : Evo rb m m' W W'.drew := ⟨h.os, h.tape, h.output, h.size, h.same, h.fresh, h.fa, h.ca⟩
/-- the books may be kept anew: closures and cells more, at new blocks -/
theorem Evo.more {rb : Nat} {m m' m'' : Mem} {W W' : World} (h : Evo rb m m' W W') (hfa : m'.fa <+: m''.fa) (hca : m'.ca <+: m''.ca) (hf : ∀ k, m''.mut rb k → m.mut rb k ∨ W.heap.size ≤ k) : Evo rb m m'' W W' :=
  ⟨h.os, h.tape, h.output, h.size, h.same, hf, h.fa.trans hfa, h.ca.trans hca⟩
/-- a store behind what stood at first -/
theorem Evo.setNew {rb : Nat} {m m' : Mem} {W W' : World} (h : Evo rb m m' W W') {b : Nat} (hb : W.heap.size ≤ b) (o : Nat) (v : Value) : Evo rb m m' W (W'.setCell ⟨b, o, none⟩ v) :=
  ⟨h.os, h.tape, h.output, by simpa [World.setCell] using h.size, fun k hk hm => (Below.heap_setCell W' _ _ k (by show k ≠ b; omega)).trans (h.same k hk hm), h.fresh, h.fa, h.ca⟩

/-- a block that lies and that nothing turns any more -/
def At (rb : Nat) (m : Mem) (W : World) (b : Nat) (o : Obj) : Prop := W.heap[b]? = some o ∧ ¬ m.mut rb b
theorem Evo.still {rb : Nat} {m m' : Mem} {W W' : World} (hk : Evo rb m m' W W') {k : Nat} (h : k < W.heap.size) (hn : ¬ m.mut rb k) : ¬ m'.mut rb k := fun hb => by
  rcases hk.fresh k hb with hb | hb
  · exact hn hb
  · omega
theorem At.evo {rb : Nat} {m m' : Mem} {W W' : World} {b : Nat} {o : Obj} (h : At rb m W b o) (hk : Evo rb m m' W W') : At rb m' W' b o :=
  have hlt := (Array.getElem?_eq_some_iff.1 h.1).1
  ⟨(hk.same b hlt h.2).trans h.1, hk.still hlt h.2⟩

/-- what stands for a value -/
inductive RepV (rb : Nat) (m : Mem) (W : World) : PV → Value → Prop
  | int (n : Int) : RepV rb m W (.int n) (.iface 90 (.int .i64 n))
  | blk {tag : Int} {kids : List PV} {b g cap : Nat} {F : Nat → Value} (hb : At rb m W b (.cells #[.int .i64 tag, .slice (some ⟨g, 0, none⟩) kids.length cap] 94 (0, 0)))
      (hg : g < W.heap.size) (hgm : ¬ m.mut rb g) (hl : kids.length ≤ cap) (h0 : 0 < kids.length) (h8 : kids.length ≤ 255) (hc : ∀ j, j < kids.length → W.cell? ⟨g, j, none⟩ = some (F j)) (hk : ∀ j (h : j < kids.length), RepV rb m W kids[j] (F j)) :
      RepV rb m W (.blk tag kids) (.iface 91 (.pointer (some ⟨b, 0, none⟩)))
  | fn {i b : Nat} (h : m.fa[i]? = some b) : RepV rb m W (.fn i) (.iface 109 (.pointer (some ⟨b, 0, none⟩)))
  | ref {i b : Nat} (h : m.ca[i]? = some b) : RepV rb m W (.ref i) (.iface 117 (.pointer (some ⟨b, 0, none⟩)))
theorem prefix_get {α : Type} {a b : List α} (h : a <+: b) {i : Nat} {x : α} (hx : a[i]? = some x) : b[i]? = some x := by
  obtain ⟨r, rfl⟩ := h
  rw [List.getElem?_append_left (List.getElem?_eq_some_iff.1 hx).1]; exact hx
theorem cell_of_heap {W W' : World} {g : Nat} (h : W'.heap[g]? = W.heap[g]?) (o : Nat) : W'.cell? ⟨g, o, none⟩ = W.cell? ⟨g, o, none⟩ := World.cell?_of_block (w := W) h
theorem RepV.evo {rb : Nat} {m m' : Mem} {W W' : World} (hk : Evo rb m m' W W') {v : PV} {g : Value} (h : RepV rb m W v g) : RepV rb m' W' v g := by
  induction h with
  | int n => exact .int n
  | blk hb hg hgm hl h0 h8 hc _ ih =>
    exact .blk (hb.evo hk) (Nat.lt_of_lt_of_le hg hk.size) (hk.still hg hgm) hl h0 h8 (fun j hj => (cell_of_heap (hk.same _ hg hgm) j).trans (hc j hj)) ih
  | fn h => exact .fn (prefix_get hk.fa h)
  | ref h => exact .ref (prefix_get hk.ca h)
theorem RepV.shape {rb : Nat} {m : Mem} {W : World} {v : PV} {g : Value} (h : RepV rb m W v g) : ∃ T p, g = .iface T p := by
  cases h <;> exact ⟨_, _, rfl⟩
/-- values in a row: what a closure holds, what a right side is handed -/
def RowV (rb : Nat) (m : Mem) (W : World) (l : List PV) (A : Option Addr) : Prop :=
  0 < l.length → ∃ (g o : Nat) (F : Nat → Value), A = some ⟨g, o, none⟩ ∧ g < W.heap.size ∧ ¬ m.mut rb g ∧ (∀ j, j < l.length → W.cell? ⟨g, o + j, none⟩ = some (F j)) ∧ ∀ j (h : j < l.length), RepV rb m W l[j] (F j)
theorem RowV.evo {rb : Nat} {m m' : Mem} {W W' : World} (hk : Evo rb m m' W W') {l : List PV} {A : Option Addr} (h : RowV rb m W l A) : RowV rb m' W' l A := fun h0 => by
  obtain ⟨g, o, F, rfl, hg, hm, hc, hr⟩ := h h0
  exact ⟨g, o, F, rfl, Nat.lt_of_lt_of_le hg hk.size, hk.still hg hm, fun j hj => (cell_of_heap (hk.same _ hg hm) _).trans (hc j hj), fun j hj => (hr j hj).evo hk⟩
/-- what stands for what is known -/
inductive EnvIn (rb : Nat) (m : Mem) (W : World) : PEnv → Value → Prop
  | nil : EnvIn rb m W [] (.pointer none)
  | cons {x : Int} {v : PV} {e : PEnv} {gv nx : Value} {b : Nat} (hb : At rb m W b (.cells #[.int .i64 x, gv, nx] 99 (0, 0))) (hv : RepV rb m W v gv) (he : EnvIn rb m W e nx) : EnvIn rb m W ((x, v) :: e) (.pointer (some ⟨b, 0, none⟩))
theorem EnvIn.evo {rb : Nat} {m m' : Mem} {W W' : World} (hk : Evo rb m m' W W') {e : PEnv} {g : Value} (h : EnvIn rb m W e g) : EnvIn rb m' W' e g := by
  induction h with
  | nil => exact .nil
  | cons hb hv _ ih => exact .cons (hb.evo hk) (hv.evo hk) ih
theorem EnvIn.shape {rb : Nat} {m : Mem} {W : World} {e : PEnv} {g : Value} (h : EnvIn rb m W e g) : ∃ p, g = .pointer p := by
  cases h <;> exact ⟨_, rfl⟩

/-- a run in memory -/
structure Good (rb B : Nat) (p : FlatP) (inp : List Int) (fuel : Nat) (s : FSt) (m : Mem) (W : World) : Prop where
  Bs : B ≤ W.heap.size
  rbB : B ≤ rb
  left : s.left ≤ fuel
  fuelB : fuel ≤ 1000000
  bnd : s.out.length + s.left ≤ fuel
  run : ∃ f0 f1 f2 f3 Ai ci, W.heap[rb]? = some (.cells #[f0, f1, f2, f3, .slice Ai (inp.drop s.asked).length ci, .int .i64 fuel, .int .i64 0, .int .i64 0, m.vo, .int .i64 ((fuel : Int) - s.left)] 62 (0, 0)) ∧ FlatIn B W p #[f0, f1, f2, f3] ∧ IntsIn B W Ai (inp.drop s.asked) ∧ (inp.drop s.asked).length ≤ ci
  out : W.ownsRow B 3 1 m.vo s.out.length (s.out.map (Value.int .i64))
  falen : m.fa.length = s.made.length
  fns : ∀ i (h : i < s.made.length), ∃ b A cap, m.fa[i]? = some b ∧ At rb m W b (.cells #[.int .i64 s.made[i].1, .slice A s.made[i].2.length cap] 111 (0, 0)) ∧ s.made[i].2.length ≤ cap ∧ s.made[i].2.length ≤ 255 ∧ RowV rb m W s.made[i].2 A ∧ 0 ≤ s.made[i].1 ∧ s.made[i].1 < p.funs.length
  calen : m.ca.length = s.cells.length
  cells : ∀ i (h : i < s.cells.length), ∃ b gv, m.ca[i]? = some b ∧ W.heap[b]? = some (.cells #[gv] 118 (0, 0)) ∧ RepV rb m W s.cells[i] gv
  nodup : m.ca.Nodup
  rbca : rb ∉ m.ca
  rbo : m.vo.ownBlock ≠ some rb
  oca : ∀ b ∈ m.ca, m.vo.ownBlock ≠ some b
  caB : ∀ b ∈ m.ca, B ≤ b
section
variable {rb B : Nat} {p : FlatP} {inp : List Int} {fuel : Nat} {s : FSt} {m m' : Mem} {W W' : World}
theorem Good.mutB (h : Good rb B p inp fuel s m W) {k : Nat} (hk : m.mut rb k) : B ≤ k := by
  rcases hk with rfl | hk | hk
  · exact h.rbB
  · exact (h.out.lt k hk).1
  · exact h.caB k hk
theorem Good.mutLt (h : Good rb B p inp fuel s m W) {k : Nat} (hk : m.mut rb k) : k < W.heap.size := by
  rcases hk with rfl | hk | hk
  · obtain ⟨_, _, _, _, _, _, hr, _⟩ := h.run; exact (Array.getElem?_eq_some_iff.1 hr).1
  · exact (h.out.lt k hk).2
  · obtain ⟨i, hi, rfl⟩ := List.getElem_of_mem hk
    obtain ⟨b, gv, h1, h2, _⟩ := h.cells i (by rw [← h.calen]; exact hi)
    rw [List.getElem?_eq_getElem hi] at h1
    cases h1
    exact (Array.getElem?_eq_some_iff.1 h2).1
/-- the run leaves what lies below as it is -/
theorem Good.stay (h : Good rb B p inp fuel s m W) (hk : Evo rb m m' W W') : Below B W W' :=
  ⟨hk.os, hk.tape, hk.output, hk.size, fun k hlt => hk.same k (Nat.lt_of_lt_of_le hlt h.Bs) (fun hm => by have := h.mutB hm; omega)⟩
theorem Good.fnsEvo (hg : Good rb B p inp fuel s m W) (hk : Evo rb m m' W W') : ∀ i (h : i < s.made.length), ∃ b A cap, m'.fa[i]? = some b ∧ At rb m' W' b (.cells #[.int .i64 s.made[i].1, .slice A s.made[i].2.length cap] 111 (0, 0)) ∧ s.made[i].2.length ≤ cap ∧ s.made[i].2.length ≤ 255 ∧ RowV rb m' W' s.made[i].2 A ∧ 0 ≤ s.made[i].1 ∧ s.made[i].1 < p.funs.length := fun i hi => by
  obtain ⟨b, A, cap, h1, h2, h3, h4, h5, h6, h7⟩ := hg.fns i hi
  exact ⟨b, A, cap, prefix_get hk.fa h1, h2.evo hk, h3, h4, h5.evo hk, h6, h7⟩
/-- what lies beside a run may grow -/
theorem Good.below (h : Good rb B p inp fuel s m W) (hb : Below W.heap.size W W') : Good rb B p inp fuel s m W' := by
  have hk : Evo rb m m W W' := Evo.below hb
  have hst := h.stay hk
  obtain ⟨f0, f1, f2, f3, Ai, ci, hr, hf, hi, hci⟩ := h.run
  refine ⟨Nat.le_trans h.Bs hb.size, h.rbB, h.left, h.fuelB, h.bnd, ⟨f0, f1, f2, f3, Ai, ci, (hb.block rb (Array.getElem?_eq_some_iff.1 hr).1).trans hr, hf.kept hst, hi.below hst, hci⟩, ?_, h.falen, h.fnsEvo hk, h.calen, ?_, h.nodup, h.rbca, h.rbo, h.oca, h.caB⟩
  · exact h.out.kept ⟨hb.os, hb.tape, hb.output, hb.size, fun i hi _ => hb.block i hi⟩ (row := none) (by cases m.vo.ownBlock <;> simp)
  · intro i hi'
    obtain ⟨b, gv, h1, h2, h3⟩ := h.cells i hi'
    exact ⟨b, gv, h1, (hb.block b (Array.getElem?_eq_some_iff.1 h2).1).trans h2, h3.evo hk⟩
end

theorem at_cell0 {rb : Nat} {m : Mem} {W : World} {b : Nat} {cs : Array Value} {t : TypeId} {fr : Nat × Nat} (h : At rb m W b (.cells cs t fr)) {i : Nat} {v : Value} (hv : cs[i]? = some v) : W.cell? ⟨b, i, none⟩ = some v := by
  simp [World.cell?, h.1, hv]
theorem at_new {rb : Nat} {m : Mem} {W : World} (hm : ∀ k, m.mut rb k → k < W.heap.size) (cs : Array Value) (t : TypeId) : At rb m (W.alloc (.cells cs t)) W.heap.size (.cells cs t) :=
  ⟨World.alloc_heap_new W _, fun h => by have := hm _ h; omega⟩
theorem at_frozen {rb : Nat} {m : Mem} {W : World} {b : Nat} {cs : Array Value} {t : TypeId} (h : At rb m W b (.cells cs t (0, 0))) (o : Nat) : W.frozen? ⟨b, o, none⟩ = false := by
  simp [World.frozen?, h.1]
theorem cell_behind {W W' : World} (hb : Below W.heap.size W W') {b o : Nat} {v : Value} (h : W.cell? ⟨b, o, none⟩ = some v) : W'.cell? ⟨b, o, none⟩ = some v :=
  (hb.cell (p := ⟨b, o, none⟩) (World.block_lt_of_cell? _ _ h)).trans h
end Go.Proofs.Ytnobggabjpcbfaa

/-
  Flat programs: the plain law of a closure that does not hold itself: it runs as a group of one.
-/
set_option linter.unusedVariables false
set_option linter.unusedSimpArgs false
namespace Go.Proofs.Ytnobggabjpcbfaa

theorem atomsP_len {e : PEnv} : ∀ (ats : List Atm) (l : List PV), atomsP e ats = some l → l.length = ats.length
  | [], l, h => by simp only [atomsP, Option.some.injEq] at h; subst h; rfl
  | a :: ats, l, h => by
    unfold atomsP at h
    cases ha : atomP e a with
    | none => rw [ha] at h; cases h
    | some v =>
      rw [ha] at h
      simp only [Option.map_eq_some_iff] at h
      obtain ⟨l', h1, rfl⟩ := h
      simp [atomsP_len ats l' h1]
end Go.Proofs.Ytnobggabjpcbfaa

/-
  Groups in plain Lean: their variables, functions, and what they hold, place by place.
-/
set_option linter.unusedVariables false
set_option linter.unusedSimpArgs false
namespace Go.Proofs.Ytnobggabjpcbfaa

theorem nth_cons3 (x y z : Int) (l : List Int) (i : Nat) : nth (x :: y :: z :: l) (i + 3) = nth l i := by simp [nth]
theorem groupEnv_snoc : ∀ (k : Nat) (l : List Int) (x y z : Int) (i : Nat) (e : PEnv), l.length = 3 * k → groupEnv (l ++ [x, y, z]) i e = (x, .fn (i + k)) :: groupEnv l i e
  | 0, [], x, y, z, i, e, _ => by simp [groupEnv]
  | k + 1, a :: b :: c :: l, x, y, z, i, e, h => by
    have := groupEnv_snoc k l x y z (i + 1) ((a, .fn i) :: e) (by simp at h; omega)
    simp only [List.cons_append, groupEnv]
    rw [this, show i + 1 + k = i + (k + 1) by omega]
  | 0, _ :: _, x, y, z, i, e, h => by simp at h
  | k + 1, [], x, y, z, i, e, h => by simp at h
  | k + 1, [a], x, y, z, i, e, h => by simp at h; omega
  | k + 1, [a, b], x, y, z, i, e, h => by simp at h; omega
theorem groupEnv_take (ks : List Int) (i : Nat) (e : PEnv) {k : Nat} (h : 3 * k + 2 < ks.length) : groupEnv (ks.take (3 * (k + 1))) i e = (nth ks (3 * k), .fn (i + k)) :: groupEnv (ks.take (3 * k)) i e := by
  have h1 : ks.take (3 * (k + 1)) = ks.take (3 * k) ++ [nth ks (3 * k), nth ks (3 * k + 1), nth ks (3 * k + 2)] := by
    rw [show 3 * (k + 1) = 3 * k + 1 + 1 + 1 by omega, take_snoc ks (by omega), take_snoc ks (by omega), take_snoc ks (by omega)]
    simp
  rw [h1, groupEnv_snoc k _ _ _ _ _ _ (by simp; omega)]
def offN (ks : List Int) : Nat → Nat
  | 0 => 0
  | j + 1 => offN ks j + (nth ks (3 * j + 2)).toNat
theorem offN_cons (x y z : Int) (l : List Int) : ∀ j, offN (x :: y :: z :: l) (j + 1) = z.toNat + offN l j
  | 0 => by simp [offN, nth]
  | j + 1 => by
    have := offN_cons x y z l j
    unfold offN
    rw [this, show 3 * (j + 1) + 2 = 3 * j + 2 + 3 by omega, nth_cons3]
    unfold offN
    omega
theorem groupMade_length : ∀ (q : Nat) (ks : List Int) (l : List PV), ks.length = 3 * q → (groupMade ks l).length = q
  | 0, [], l, _ => by simp [groupMade]
  | q + 1, a :: b :: c :: ks, l, h => by simp [groupMade, groupMade_length q ks _ (by simp at h; omega)]
  | 0, _ :: _, l, h => by simp at h
  | q + 1, [], l, h => by simp at h
  | q + 1, [a], l, h => by simp at h; omega
  | q + 1, [a, b], l, h => by simp at h; omega
theorem groupMade_get : ∀ (q : Nat) (ks : List Int) (l : List PV), ks.length = 3 * q → ∀ j, j < q → (groupMade ks l)[j]? = some (nth ks (3 * j + 1), (l.drop (offN ks j)).take (nth ks (3 * j + 2)).toNat)
  | q + 1, a :: b :: c :: ks, l, h, 0, hj => by simp [groupMade, nth, offN]
  | q + 1, a :: b :: c :: ks, l, h, j + 1, hj => by
    have := groupMade_get q ks (l.drop c.toNat) (by simp at h; omega) j (by omega)
    simp only [groupMade, List.getElem?_cons_succ]
    rw [this, offN_cons, show 3 * (j + 1) + 1 = 3 * j + 1 + 3 by omega, show 3 * (j + 1) + 2 = 3 * j + 2 + 3 by omega, nth_cons3, nth_cons3, List.drop_drop]
  | 0, _, l, _, j, hj => by omega
  | q + 1, [], l, h, j, hj => by simp at h
  | q + 1, [a], l, h, j, hj => by simp at h; omega
  | q + 1, [a, b], l, h, j, hj => by simp at h; omega
theorem groupH_get : ∀ (q : Nat) (ks : List Int), ks.length = 3 * q → ∀ j, j < q → (groupH ks)[j]? = some (nth ks (3 * j + 2))
  | q + 1, a :: b :: c :: ks, h, 0, hj => by simp [groupH, nth]
  | q + 1, a :: b :: c :: ks, h, j + 1, hj => by
    simp only [groupH, List.getElem?_cons_succ]
    rw [groupH_get q ks (by simp at h; omega) j (by omega), show 3 * (j + 1) + 2 = 3 * j + 2 + 3 by omega, nth_cons3]
  | 0, _, _, j, hj => by omega
  | q + 1, [], h, j, hj => by simp at h
  | q + 1, [a], h, j, hj => by simp at h; omega
  | q + 1, [a, b], h, j, hj => by simp at h; omega
theorem groupF_get : ∀ (q : Nat) (ks : List Int), ks.length = 3 * q → ∀ j, j < q → (groupF ks)[j]? = some (nth ks (3 * j + 1))
  | q + 1, a :: b :: c :: ks, h, 0, hj => by simp [groupF, nth]
  | q + 1, a :: b :: c :: ks, h, j + 1, hj => by
    simp only [groupF, List.getElem?_cons_succ]
    rw [groupF_get q ks (by simp at h; omega) j (by omega), show 3 * (j + 1) + 1 = 3 * j + 1 + 3 by omega, nth_cons3]
  | 0, _, _, j, hj => by omega
  | q + 1, [], h, j, hj => by simp at h
  | q + 1, [a], h, j, hj => by simp at h; omega
  | q + 1, [a, b], h, j, hj => by simp at h; omega
theorem offN_sum : ∀ (q : Nat) (ks : List Int), ks.length = 3 * q → (groupH ks).all (fun h => inB h 0 255) = true → ((offN ks q : Nat) : Int) = sumL (groupH ks)
  | 0, [], _, _ => by simp [offN, groupH, sumL]
  | q + 1, a :: b :: c :: ks, h, hh => by
    simp only [groupH, List.all_cons, Bool.and_eq_true, inB_iff] at hh
    have := offN_sum q ks (by simp at h; omega) hh.2
    rw [offN_cons]
    simp only [groupH, sumL]
    omega
  | 0, _ :: _, h, _ => by simp at h
  | q + 1, [], h, _ => by simp at h
  | q + 1, [a], h, _ => by simp at h; omega
  | q + 1, [a, b], h, _ => by simp at h; omega
theorem offN_mono (ks : List Int) {i j : Nat} (h : i ≤ j) : offN ks i ≤ offN ks j := by
  induction h with
  | refl => exact Nat.le_refl _
  | step _ ih => exact Nat.le_trans ih (Nat.le_add_right _ _)
/-- what a group is that may be, place by place -/
structure GroupOk (nf : Nat) (ks : List Int) (na q : Nat) : Prop where
  len : ks.length = 3 * q
  q1 : 1 ≤ q
  f : ∀ j, j < q → 0 ≤ nth ks (3 * j + 1) ∧ nth ks (3 * j + 1) < nf
  h : ∀ j, j < q → 0 ≤ nth ks (3 * j + 2) ∧ nth ks (3 * j + 2) ≤ 255
  sum : offN ks q = na
theorem BindOk.group_ {nf : Nat} {x n : Int} {ats : List Atm} {ks : List Int} {nb : Nat} (h : BindOk nf x 10 n ats ks nb) : ∃ q, GroupOk nf ks ats.length q := by
  obtain ⟨h1, h2, h3, h4, h5⟩ := h.group
  have hl : ks.length = 3 * (ks.length / 3) := by omega
  refine ⟨ks.length / 3, hl, by omega, fun j hj => ?_, fun j hj => ?_, ?_⟩
  · have hg := groupF_get _ ks hl j hj
    have := List.all_eq_true.1 h5 _ (List.mem_of_getElem? hg)
    have := inB_iff.1 this
    omega
  · have hg := groupH_get _ ks hl j hj
    exact inB_iff.1 (List.all_eq_true.1 h1 _ (List.mem_of_getElem? hg))
  · have := offN_sum _ ks hl h1
    omega
end Go.Proofs.Ytnobggabjpcbfaa

/-
  clos: within, variable, atom, has, bare, the closures of number and body.
-/
set_option linter.unusedVariables false
set_option linter.unusedSimpArgs false
namespace Go.Proofs.Ytnobggabjpcbfaa
open Go.RowKit

theorem within_any (n a b : Int) (w : World) :
    Calls Try.prog 43 #[.int .i64 n, .int .i64 a, .int .i64 b] w fun e w' => e = .returned (.bool (inB n a b)) ∧ w = w' := by
  by_cases h : a ≤ n
  all_goals
    go_enter Try.func43, Try.ntmps43
    go_wp2
    go_ret
    exact ⟨ret_bool (by simp [inB]; omega), rfl⟩
theorem within_q (n a b : Int) (w : World) :
    Calls Try.prog 43 #[.int .i64 n, .int .i64 a, .int .i64 b] w fun e w' => e = .returned (.bool (inB n a b)) ∧ w' = w := (within_any n a b w).mono fun _ _ h => ⟨h.1, h.2.symm⟩
theorem variable_any (n : Int) (w : World) :
    Calls Try.prog 30 #[.int .i64 n] w fun e w' => e = .returned (.bool (varB n)) ∧ w = w' := by
  go_enter Try.func30, Try.ntmps30
  go_wp2_with (go_at_call 43; refine (within_any _ _ _ _).mono ?_; rintro e w' ⟨rfl, rfl⟩)
  go_ret
  exact ⟨rfl, rfl⟩
theorem catom_any (v : Bool) (n : Int) (w : World) :
    Calls Try.prog 49 #[.agg #[.bool v, .int .i64 n]] w fun e w' => e = .returned (.bool (atomB ⟨v, n⟩)) ∧ Below w.heap.size w w' := by
  have hb := below_alloc (Below.refl w.heap.size w) (.cells #[.bool v, .int .i64 n] 25)
  cases v
  all_goals
    go_enter Try.func49, Try.ntmps49
    go_wp2_with (go_at_call 43; refine (within_any _ _ _ _).mono ?_; rintro e w' ⟨rfl, rfl⟩)
    go_ret
    exact ⟨ret_bool (by simp [atomB]), hb⟩
theorem has_any (k : Int) (w : World) :
    Calls Try.prog 69 #[.int .i64 k] w fun e w' => e = .returned (.tuple #[.bool (hasN k), .bool (hasA k), .bool (hasK k), .bool (hasB k), .bool (hasA k)]) ∧ w = w' := by
  by_cases h : k = 1 ∨ k = 6 ∨ k = 2 ∨ k = 3 ∨ k = 4 ∨ k = 9 ∨ k = 8 ∨ k = 10
  · rcases h with rfl | rfl | rfl | rfl | rfl | rfl | rfl | rfl
    all_goals
      go_enter Try.func69, Try.ntmps69
      go_wp2
      refine bodyPost_ret (v := .tuple #[.bool _, .bool _, .bool _, .bool _, .bool _]) (by simp [results, Try.results69, go_sem]; decide) rfl ⟨rfl, rfl⟩
  · have e1 : (k == 1) = false := by simp; omega
    have e2 : (k == 2) = false := by simp; omega
    have e3 : (k == 3) = false := by simp; omega
    have e4 : (k == 4) = false := by simp; omega
    have e6 : (k == 6) = false := by simp; omega
    have e8 : (k == 8) = false := by simp; omega
    have e9 : (k == 9) = false := by simp; omega
    have e10 : (k == 10) = false := by simp; omega
    go_enter Try.func69, Try.ntmps69
    go_wp2
    refine bodyPost_ret (v := .tuple #[.bool false, .bool false, .bool false, .bool false, .bool false]) (by simp [results, Try.results69, go_sem]) rfl ⟨?_, rfl⟩
    simp [hasN, hasA, hasK, hasB, e1, e2, e3, e4, e6, e8, e9, e10]
theorem has_combo (k : Int) : hasA k = false ∨ (hasA k = true ∧ ((hasN k = false ∧ hasK k = false ∧ hasB k = false) ∨ (hasN k = true ∧ hasK k = false ∧ hasB k = false) ∨ (hasN k = false ∧ hasK k = true ∧ hasB k = true) ∨ (hasN k = false ∧ hasK k = true ∧ hasB k = false))) := by
  by_cases h : k = 1 ∨ k = 6 ∨ k = 2 ∨ k = 3 ∨ k = 4 ∨ k = 9 ∨ k = 8 ∨ k = 10
  · rcases h with rfl | rfl | rfl | rfl | rfl | rfl | rfl | rfl <;> decide
  · left
    simp [hasA]; omega
set_option maxHeartbeats 1000000 in
theorem bare_any (k n : Int) (Aa Ak Al : Option Addr) (na ca nk ck nb cb : Nat) (w : World) :
    Calls Try.prog 58 #[.agg #[.int .i64 k, .int .i64 n, .slice Aa na ca, .slice Ak nk ck, .slice Al nb cb]] w fun e w' => e = .returned (.bool (bareB k n na nk nb)) ∧ Below w.heap.size w w' := by
  obtain ⟨W0, hW0⟩ : ∃ W0, w.alloc (.cells #[.int .i64 k, .int .i64 n, .slice Aa na ca, .slice Ak nk ck, .slice Al nb cb] 52) = W0 := ⟨_, rfl⟩
  have hb0 : Below w.heap.size w W0 := by rw [← hW0]; exact (Below.refl _ _).alloc (Nat.le_refl _) _
  have c0 : W0.cell? ⟨w.heap.size, 0, none⟩ = some (.int .i64 k) := by rw [← hW0, World.cell?_alloc_at _ _ _ _ rfl]; rfl
  have c1 : W0.cell? ⟨w.heap.size, 1, none⟩ = some (.int .i64 n) := by rw [← hW0, World.cell?_alloc_at _ _ _ _ rfl]; rfl
  have c2 : W0.cell? ⟨w.heap.size, 2, none⟩ = some (.slice Aa na ca) := by rw [← hW0, World.cell?_alloc_at _ _ _ _ rfl]; rfl
  have c3 : W0.cell? ⟨w.heap.size, 3, none⟩ = some (.slice Ak nk ck) := by rw [← hW0, World.cell?_alloc_at _ _ _ _ rfl]; rfl
  have c4 : W0.cell? ⟨w.heap.size, 4, none⟩ = some (.slice Al nb cb) := by rw [← hW0, World.cell?_alloc_at _ _ _ _ rfl]; rfl
  have HB := Lib.hid hb0
  clear hb0
  have x2 : ((nk : Int) == 0) = (nk == 0) := by rw [Bool.eq_iff_iff]; simp
  have x3 : ((nb : Int) == 0) = (nb == 0) := by rw [Bool.eq_iff_iff]; simp
  obtain ⟨out, hout⟩ : ∃ o, bareB k n na nk nb = o := ⟨_, rfl⟩
  rw [hout]
  have HO := Lib.hid (show out = (hasA k && (hasN k || n == 0) && (hasA k || na == 0) && (hasK k || (nk : Int) == 0) && (hasB k || (nb : Int) == 0)) from by rw [x2, x3]; exact hout.symm)
  clear hout x2 x3
  have HH := Lib.hid (has_any k W0)
  have hc := has_combo k
  generalize hasA k = b1 at *
  generalize hasN k = b2 at *
  generalize hasK k = b3 at *
  generalize hasB k = b4 at *
  rcases hc with rfl | ⟨rfl, ⟨rfl, rfl, rfl⟩ | ⟨rfl, rfl, rfl⟩ | ⟨rfl, rfl, rfl⟩ | ⟨rfl, rfl, rfl⟩⟩
  · go_enter Try.func58, Try.ntmps58
    go_wp2_with (go_at_call 69; refine HH.out.mono ?_; rintro en w' ⟨rfl, rfl⟩)
    go_ret
    exact ⟨ret_bool (HO.out.symm ▸ (by simp [])), HB.out⟩
  · cases e1 : (n == 0)
    · go_enter Try.func58, Try.ntmps58
      go_wp2_with (go_at_call 69; refine HH.out.mono ?_; rintro en w' ⟨rfl, rfl⟩)
      go_ret
      exact ⟨ret_bool (HO.out.symm ▸ (by simp [e1])), HB.out⟩
    · cases e2 : ((nk : Int) == 0)
      · go_enter Try.func58, Try.ntmps58
        go_wp2_with (go_at_call 69; refine HH.out.mono ?_; rintro en w' ⟨rfl, rfl⟩)
        go_ret
        exact ⟨ret_bool (HO.out.symm ▸ (by simp [e1, e2])), HB.out⟩
      · cases e3 : ((nb : Int) == 0)
        · go_enter Try.func58, Try.ntmps58
          go_wp2_with (go_at_call 69; refine HH.out.mono ?_; rintro en w' ⟨rfl, rfl⟩)
          go_ret
          exact ⟨ret_bool (HO.out.symm ▸ (by simp [e1, e2, e3])), HB.out⟩
        · go_enter Try.func58, Try.ntmps58
          go_wp2_with (go_at_call 69; refine HH.out.mono ?_; rintro en w' ⟨rfl, rfl⟩)
          go_ret
          exact ⟨ret_bool (HO.out.symm ▸ (by simp [e1, e2, e3])), HB.out⟩
  · cases e2 : ((nk : Int) == 0)
    · go_enter Try.func58, Try.ntmps58
      go_wp2_with (go_at_call 69; refine HH.out.mono ?_; rintro en w' ⟨rfl, rfl⟩)
      go_ret
      exact ⟨ret_bool (HO.out.symm ▸ (by simp [e2])), HB.out⟩
    · cases e3 : ((nb : Int) == 0)
      · go_enter Try.func58, Try.ntmps58
        go_wp2_with (go_at_call 69; refine HH.out.mono ?_; rintro en w' ⟨rfl, rfl⟩)
        go_ret
        exact ⟨ret_bool (HO.out.symm ▸ (by simp [e2, e3])), HB.out⟩
      · go_enter Try.func58, Try.ntmps58
        go_wp2_with (go_at_call 69; refine HH.out.mono ?_; rintro en w' ⟨rfl, rfl⟩)
        go_ret
        exact ⟨ret_bool (HO.out.symm ▸ (by simp [e2, e3])), HB.out⟩
  · cases e1 : (n == 0)
    · go_enter Try.func58, Try.ntmps58
      go_wp2_with (go_at_call 69; refine HH.out.mono ?_; rintro en w' ⟨rfl, rfl⟩)
      go_ret
      exact ⟨ret_bool (HO.out.symm ▸ (by simp [e1])), HB.out⟩
    · go_enter Try.func58, Try.ntmps58
      go_wp2_with (go_at_call 69; refine HH.out.mono ?_; rintro en w' ⟨rfl, rfl⟩)
      go_ret
      exact ⟨ret_bool (HO.out.symm ▸ (by simp [e1])), HB.out⟩
  · cases e1 : (n == 0)
    · go_enter Try.func58, Try.ntmps58
      go_wp2_with (go_at_call 69; refine HH.out.mono ?_; rintro en w' ⟨rfl, rfl⟩)
      go_ret
      exact ⟨ret_bool (HO.out.symm ▸ (by simp [e1])), HB.out⟩
    · cases e3 : ((nb : Int) == 0)
      · go_enter Try.func58, Try.ntmps58
        go_wp2_with (go_at_call 69; refine HH.out.mono ?_; rintro en w' ⟨rfl, rfl⟩)
        go_ret
        exact ⟨ret_bool (HO.out.symm ▸ (by simp [e1, e3])), HB.out⟩
      · go_enter Try.func58, Try.ntmps58
        go_wp2_with (go_at_call 69; refine HH.out.mono ?_; rintro en w' ⟨rfl, rfl⟩)
        go_ret
        exact ⟨ret_bool (HO.out.symm ▸ (by simp [e1, e3])), HB.out⟩
theorem number1_any (v : Bool) (n : Int) (w : World) :
    Calls Try.prog 70 #[.agg #[.bool v, .int .i64 n]] w fun e w' => e = .returned (.bool (!atomB ⟨v, n⟩)) ∧ Below w.heap.size w w' := by
  obtain ⟨W0, hW0⟩ : ∃ W0, w.alloc (.cells #[.bool v, .int .i64 n] 25) = W0 := ⟨_, rfl⟩
  have hb0 : Below w.heap.size w W0 := by rw [← hW0]; exact (Below.refl _ _).alloc (Nat.le_refl _) _
  have c0 : W0.cell? ⟨w.heap.size, 0, none⟩ = some (.bool v) := by rw [← hW0, World.cell?_alloc_at _ _ _ _ rfl]; rfl
  have c1 : W0.cell? ⟨w.heap.size, 1, none⟩ = some (.int .i64 n) := by rw [← hW0, World.cell?_alloc_at _ _ _ _ rfl]; rfl
  have HB := Lib.hid hb0
  have HC := Lib.hid (catom_any v n W0)
  clear hb0
  go_enter Try.func70, Try.ntmps70
  go_wp2_with fail
  refine HC.out.mono ?_
  rintro e w' ⟨rfl, hb⟩
  go_wp2_with fail
  go_ret
  exact ⟨rfl, HB.out.trans (hb.mono HB.out.size)⟩
end Go.Proofs.Ytnobggabjpcbfaa

/-
  Groups in plain Lean, of whatever length; what is asked of keys, from the left.
-/
set_option linter.unusedVariables false
set_option linter.unusedSimpArgs false
namespace Go.Proofs.Ytnobggabjpcbfaa

theorem groupV_get : ∀ (ks : List Int) (k : Nat), 3 * k < ks.length → (groupV ks)[k]? = some (nth ks (3 * k))
  | x :: y :: z :: ks, 0, h => by simp [groupV, nth]
  | x :: y :: z :: ks, k + 1, h => by
    simp only [groupV, List.getElem?_cons_succ]
    rw [groupV_get ks k (by simp at h; omega), show 3 * (k + 1) = 3 * k + 3 by omega, nth_cons3]
  | [x, y], 0, h => by simp [groupV, nth]
  | [x, y], k + 1, h => by simp at h; omega
  | [x], 0, h => by simp [groupV, nth]
  | [x], k + 1, h => by simp at h
  | [], k, h => by simp at h
theorem groupV_len : ∀ (ks : List Int), (groupV ks).length = (ks.length + 2) / 3
  | x :: y :: z :: ks => by simp only [groupV, List.length_cons, groupV_len ks]; omega
  | [x, y] => by simp [groupV]
  | [x] => by simp [groupV]
  | [] => by simp [groupV]
theorem groupF_get' : ∀ (ks : List Int) (k : Nat), 3 * k + 1 < ks.length → (groupF ks)[k]? = some (nth ks (3 * k + 1))
  | x :: y :: z :: ks, 0, h => by simp [groupF, nth]
  | x :: y :: z :: ks, k + 1, h => by
    simp only [groupF, List.getElem?_cons_succ]
    rw [groupF_get' ks k (by simp at h; omega), show 3 * (k + 1) + 1 = 3 * k + 1 + 3 by omega, nth_cons3]
  | [x, y], 0, h => by simp [groupF, nth]
  | [x, y], k + 1, h => by simp at h; omega
  | [x], k, h => by simp at h
  | [], k, h => by simp at h
theorem groupF_len : ∀ (ks : List Int), (groupF ks).length = (ks.length + 1) / 3
  | x :: y :: z :: ks => by simp only [groupF, List.length_cons, groupF_len ks]; omega
  | [x, y] => by simp [groupF]
  | [x] => by simp [groupF]
  | [] => by simp [groupF]
theorem groupH_get' : ∀ (ks : List Int) (k : Nat), 3 * k + 2 < ks.length → (groupH ks)[k]? = some (nth ks (3 * k + 2))
  | x :: y :: z :: ks, 0, h => by simp [groupH, nth]
  | x :: y :: z :: ks, k + 1, h => by
    simp only [groupH, List.getElem?_cons_succ]
    rw [groupH_get' ks k (by simp at h; omega), show 3 * (k + 1) + 2 = 3 * k + 2 + 3 by omega, nth_cons3]
  | [x, y], k, h => by simp at h; omega
  | [x], k, h => by simp at h
  | [], k, h => by simp at h
theorem groupH_len : ∀ (ks : List Int), (groupH ks).length = ks.length / 3
  | x :: y :: z :: ks => by simp only [groupH, List.length_cons, groupH_len ks]; omega
  | [x, y] => by simp [groupH]
  | [x] => by simp [groupH]
  | [] => by simp [groupH]
theorem sumL_append (a : List Int) (x : Int) : sumL (a ++ [x]) = sumL a + x := by
  induction a with
  | nil => simp [sumL]
  | cons y a ih => simp only [List.cons_append, sumL, ih]; omega
/-- what holds of some from the left -/
theorem all_take_succ {α : Type} {f : α → Bool} {l : List α} {k : Nat} {x : α} (hx : l[k]? = some x) (h : (l.take k).all f = true) (hf : f x = true) : (l.take (k + 1)).all f = true := by
  rw [List.take_add_one, hx]
  simp only [List.all_append, Bool.and_eq_true]
  exact ⟨h, by simpa using hf⟩
theorem all_false {α : Type} {f : α → Bool} {l : List α} {k : Nat} {x : α} (hx : l[k]? = some x) (hf : f x = false) : l.all f = false := by
  rw [Bool.eq_false_iff]
  intro h
  have := List.all_eq_true.1 h x (List.mem_of_getElem? hx)
  rw [hf] at this; cases this
theorem any_false_take {α : Type} {f : α → Bool} {l : List α} {k : Nat} (h : ∀ j, j < k → ∀ x, l[j]? = some x → f x = false) (hk : l.length ≤ k) : l.any f = false := by
  rw [Bool.eq_false_iff]
  intro h2
  obtain ⟨x, hx, hf⟩ := List.any_eq_true.1 h2
  obtain ⟨i, hi, rfl⟩ := List.getElem_of_mem hx
  have := h i (by omega) _ (List.getElem?_eq_getElem hi)
  rw [hf] at this; cases this
/-- what is asked of one key behind others -/
def riseOk (l : List Int) (i : Nat) : Bool := inB (nth l i) (-1073741824) 1073741823 && (i == 0 || decide (nth l (i - 1) < nth l i))
theorem risingB_true {l : List Int} (h : ∀ i, i < l.length → riseOk l i = true) : risingB l = true := by
  unfold risingB
  rw [Bool.and_eq_true]
  refine ⟨List.all_eq_true.2 fun x hx => ?_, List.all_eq_true.2 fun i hi => ?_⟩
  · obtain ⟨i, hi, rfl⟩ := List.getElem_of_mem hx
    have := h i hi
    unfold riseOk at this
    rw [Bool.and_eq_true, nth_eq l hi] at this
    exact this.1
  · have := h i (List.mem_range.1 hi)
    unfold riseOk at this
    rw [Bool.and_eq_true] at this
    exact this.2
theorem risingB_false {l : List Int} {i : Nat} (hi : i < l.length) (h : riseOk l i = false) : risingB l = false := by
  rw [Bool.eq_false_iff]
  intro h2
  unfold risingB at h2
  rw [Bool.and_eq_true] at h2
  have h3 := List.all_eq_true.1 h2.1 _ (List.getElem_mem hi)
  have h4 := List.all_eq_true.1 h2.2 i (List.mem_range.2 hi)
  unfold riseOk at h
  rw [nth_eq l hi] at h
  rw [nth_eq l hi] at h4
  simp only [h3, h4, Bool.and_self] at h
  cases h
end Go.Proofs.Ytnobggabjpcbfaa

/-
  num.Wrap, num.Do: what is done with two ints.
-/
set_option linter.unusedVariables false
set_option linter.unusedSimpArgs false
namespace Go.Proofs.Ytnobggabjpcbfaa
open Go.RowKit

theorem wrap_any (n : Int) (w : World) :
    Calls Try.prog 72 #[.int .i64 n] w fun e w' => e = .returned (.int .i64 (wrap31 n)) ∧ w = w' := by
  go_enter Try.func72, Try.ntmps72
  go_wp2
  go_ret
  exact ⟨ret_int (wrap31_eq n), rfl⟩
def AsksPost (g : Nat) (w : World) (e : Ending) (w' : World) : Prop :=
  ∃ b, e = .returned (.agg #[.func (.func 78) #[] #[.pointer (some ⟨b, 0, none⟩)]]) ∧ w'.cell? ⟨b, 0, none⟩ = some (.func (.func g) #[] #[]) ∧ w.heap.size ≤ b ∧ Below w.heap.size w w'
theorem asks_any (g : Nat) (w : World) : Calls Try.prog 77 #[.func (.func g) #[] #[]] w (AsksPost g w) := by
  go_enter Try.func77, Try.ntmps77
  go_wp2_with fail
  refine bodyPost_ret (v := .agg #[.func (.func 78) #[] #[.pointer (some ⟨w.heap.size, 0, none⟩)]]) (by simp [results, Try.results77, go_sem]) rfl ?_
  exact ⟨w.heap.size, rfl, by rw [World.cell?_alloc_past _ _ _ (by simp), World.cell?_alloc_at _ _ _ _ rfl]; rfl, Nat.le_refl _, ((Below.refl _ _).alloc (Nat.le_refl _) _).alloc (by simp) _⟩

def DoersPost (w : World) (e : Ending) (w' : World) : Prop :=
  ∃ b6 b7 b8 b9, e = .returned (.agg #[.func (.func 80) #[] #[], .func (.func 81) #[] #[], .func (.func 82) #[] #[], .func (.func 83) #[] #[], .func (.func 84) #[] #[],
      .func (.func 78) #[] #[.pointer (some ⟨b6, 0, none⟩)], .func (.func 78) #[] #[.pointer (some ⟨b7, 0, none⟩)], .func (.func 78) #[] #[.pointer (some ⟨b8, 0, none⟩)], .func (.func 78) #[] #[.pointer (some ⟨b9, 0, none⟩)]]) ∧
    w'.cell? ⟨b6, 0, none⟩ = some (.func (.func 85) #[] #[]) ∧ w'.cell? ⟨b7, 0, none⟩ = some (.func (.func 86) #[] #[]) ∧ w'.cell? ⟨b8, 0, none⟩ = some (.func (.func 87) #[] #[]) ∧ w'.cell? ⟨b9, 0, none⟩ = some (.func (.func 88) #[] #[]) ∧ Below w.heap.size w w'
set_option maxHeartbeats 1000000 in
theorem doers_any (w : World) : Calls Try.prog 76 #[] w (DoersPost w) := by
  go_enter Try.func76, Try.ntmps76
  go_wp2_with fail
  refine (asks_any _ _).mono ?_
  rintro e w1 ⟨b6, rfl, h6, hl6, hb1⟩
  go_wp2_with fail
  refine (asks_any _ _).mono ?_
  rintro e w2 ⟨b7, rfl, h7, hl7, hb2⟩
  go_wp2_with fail
  refine (asks_any _ _).mono ?_
  rintro e w3 ⟨b8, rfl, h8, hl8, hb3⟩
  go_wp2_with fail
  refine (asks_any _ _).mono ?_
  rintro e w4 ⟨b9, rfl, h9, hl9, hb4⟩
  have hw0 : (w.alloc (.cells #[Value.nilFunc, Value.nilFunc, Value.nilFunc, Value.nilFunc, Value.nilFunc, Value.nilFunc, Value.nilFunc, Value.nilFunc, Value.nilFunc] 130)).heap[w.heap.size]? = some (.cells #[Value.nilFunc, Value.nilFunc, Value.nilFunc, Value.nilFunc, Value.nilFunc, Value.nilFunc, Value.nilFunc, Value.nilFunc, Value.nilFunc] 130) := World.alloc_heap_new w _
  have s1 := hb1.size
  have s2 := hb2.size
  have s3 := hb3.size
  have s4 := hb4.size
  simp only [World.size_alloc] at s1 hl6
  have hw4 : w4.heap[w.heap.size]? = some (.cells #[Value.nilFunc, Value.nilFunc, Value.nilFunc, Value.nilFunc, Value.nilFunc, Value.nilFunc, Value.nilFunc, Value.nilFunc, Value.nilFunc] 130) :=
    (hb4.block _ (by omega)).trans ((hb3.block _ (by omega)).trans ((hb2.block _ (by omega)).trans ((hb1.block _ (by simp)).trans hw0)))
  have k0 : w4.cell? ⟨w.heap.size, 0, none⟩ = some .nilFunc := by simp [World.cell?, hw4]
  have k1 : w4.cell? ⟨w.heap.size, 1, none⟩ = some .nilFunc := by simp [World.cell?, hw4]
  have k2 : w4.cell? ⟨w.heap.size, 2, none⟩ = some .nilFunc := by simp [World.cell?, hw4]
  have k3 : w4.cell? ⟨w.heap.size, 3, none⟩ = some .nilFunc := by simp [World.cell?, hw4]
  have k4 : w4.cell? ⟨w.heap.size, 4, none⟩ = some .nilFunc := by simp [World.cell?, hw4]
  have k5 : w4.cell? ⟨w.heap.size, 5, none⟩ = some .nilFunc := by simp [World.cell?, hw4]
  have k6 : w4.cell? ⟨w.heap.size, 6, none⟩ = some .nilFunc := by simp [World.cell?, hw4]
  have k7 : w4.cell? ⟨w.heap.size, 7, none⟩ = some .nilFunc := by simp [World.cell?, hw4]
  have k8 : w4.cell? ⟨w.heap.size, 8, none⟩ = some .nilFunc := by simp [World.cell?, hw4]
  have fz : ∀ i, w4.frozen? ⟨w.heap.size, i, none⟩ = false := fun i => by simp [World.frozen?, hw4]
  have hB4 : Below w.heap.size w w4 := ((Below.refl _ w).alloc (Nat.le_refl _) _).trans ((hb1.mono (by simp)).trans ((hb2.mono (by omega)).trans ((hb3.mono (by omega)).trans (hb4.mono (by omega)))))
  have q6 := cell_behind hb4 (cell_behind hb3 (cell_behind hb2 h6))
  have q7 := cell_behind hb4 (cell_behind hb3 h7)
  have q8 := cell_behind hb4 h8
  have HB := Lib.hid hB4
  have H6 := Lib.hid q6
  have H7 := Lib.hid q7
  have H8 := Lib.hid q8
  have H9 := Lib.hid h9
  clear hb1 hb2 hb3 hb4 h6 h7 h8 h9 q6 q7 q8 hB4 hw0 hw4
  go_wp2_with fail
  refine bodyPost_ret (v := .agg #[.func (.func 80) #[] #[], .func (.func 81) #[] #[], .func (.func 82) #[] #[], .func (.func 83) #[] #[], .func (.func 84) #[] #[],
      .func (.func 78) #[] #[.pointer (some ⟨b6, 0, none⟩)], .func (.func 78) #[] #[.pointer (some ⟨b7, 0, none⟩)], .func (.func 78) #[] #[.pointer (some ⟨b8, 0, none⟩)], .func (.func 78) #[] #[.pointer (some ⟨b9, 0, none⟩)]])
    (by simp [results, Try.results76, go_sem, k0, k1, k2, k3, k4, k5, k6, k7, k8]) rfl ?_
  have hne : ∀ (V : World) (o : Nat) (u : Value) (b : Nat), w.heap.size < b → (V.setCell ⟨w.heap.size, o, none⟩ u).cell? ⟨b, 0, none⟩ = V.cell? ⟨b, 0, none⟩ := fun V o u b hb => World.cell?_of_block (w := V) (Below.heap_setCell V _ _ b (by show b ≠ w.heap.size; omega))
  refine ⟨b6, b7, b8, b9, rfl, ?_, ?_, ?_, ?_, ?_⟩
  · rw [hne _ _ _ _ (by omega), hne _ _ _ _ (by omega), hne _ _ _ _ (by omega), hne _ _ _ _ (by omega), hne _ _ _ _ (by omega), hne _ _ _ _ (by omega), hne _ _ _ _ (by omega), hne _ _ _ _ (by omega), hne _ _ _ _ (by omega)]; exact H6.out
  · rw [hne _ _ _ _ (by omega), hne _ _ _ _ (by omega), hne _ _ _ _ (by omega), hne _ _ _ _ (by omega), hne _ _ _ _ (by omega), hne _ _ _ _ (by omega), hne _ _ _ _ (by omega), hne _ _ _ _ (by omega), hne _ _ _ _ (by omega)]; exact H7.out
  · rw [hne _ _ _ _ (by omega), hne _ _ _ _ (by omega), hne _ _ _ _ (by omega), hne _ _ _ _ (by omega), hne _ _ _ _ (by omega), hne _ _ _ _ (by omega), hne _ _ _ _ (by omega), hne _ _ _ _ (by omega), hne _ _ _ _ (by omega)]; exact H8.out
  · rw [hne _ _ _ _ (by omega), hne _ _ _ _ (by omega), hne _ _ _ _ (by omega), hne _ _ _ _ (by omega), hne _ _ _ _ (by omega), hne _ _ _ _ (by omega), hne _ _ _ _ (by omega), hne _ _ _ _ (by omega), hne _ _ _ _ (by omega)]; exact H9.out
  · exact ((((((((HB.out.setCell (p := ⟨_, _, none⟩) (Nat.le_refl _) _).setCell (p := ⟨_, _, none⟩) (Nat.le_refl _) _).setCell (p := ⟨_, _, none⟩) (Nat.le_refl _) _).setCell (p := ⟨_, _, none⟩) (Nat.le_refl _) _).setCell (p := ⟨_, _, none⟩) (Nat.le_refl _) _).setCell (p := ⟨_, _, none⟩) (Nat.le_refl _) _).setCell (p := ⟨_, _, none⟩) (Nat.le_refl _) _).setCell (p := ⟨_, _, none⟩) (Nat.le_refl _) _).setCell (p := ⟨_, _, none⟩) (Nat.le_refl _) _



theorem doer_at0 (x0 x1 x2 x3 x4 x5 x6 x7 x8 : Value) (w : World) : (Instr.index 130 (.agg #[x0, x1, x2, x3, x4, x5, x6, x7, x8]) (.int .i64 0)).run Try.prog w = .ok (.agg #[x0]) w := by kernel_rfl
theorem doer_at1 (x0 x1 x2 x3 x4 x5 x6 x7 x8 : Value) (w : World) : (Instr.index 130 (.agg #[x0, x1, x2, x3, x4, x5, x6, x7, x8]) (.int .i64 1)).run Try.prog w = .ok (.agg #[x1]) w := by kernel_rfl
theorem doer_at2 (x0 x1 x2 x3 x4 x5 x6 x7 x8 : Value) (w : World) : (Instr.index 130 (.agg #[x0, x1, x2, x3, x4, x5, x6, x7, x8]) (.int .i64 2)).run Try.prog w = .ok (.agg #[x2]) w := by kernel_rfl
theorem doer_at3 (x0 x1 x2 x3 x4 x5 x6 x7 x8 : Value) (w : World) : (Instr.index 130 (.agg #[x0, x1, x2, x3, x4, x5, x6, x7, x8]) (.int .i64 3)).run Try.prog w = .ok (.agg #[x3]) w := by kernel_rfl
theorem doer_at4 (x0 x1 x2 x3 x4 x5 x6 x7 x8 : Value) (w : World) : (Instr.index 130 (.agg #[x0, x1, x2, x3, x4, x5, x6, x7, x8]) (.int .i64 4)).run Try.prog w = .ok (.agg #[x4]) w := by kernel_rfl
theorem doer_at5 (x0 x1 x2 x3 x4 x5 x6 x7 x8 : Value) (w : World) : (Instr.index 130 (.agg #[x0, x1, x2, x3, x4, x5, x6, x7, x8]) (.int .i64 5)).run Try.prog w = .ok (.agg #[x5]) w := by kernel_rfl
theorem doer_at6 (x0 x1 x2 x3 x4 x5 x6 x7 x8 : Value) (w : World) : (Instr.index 130 (.agg #[x0, x1, x2, x3, x4, x5, x6, x7, x8]) (.int .i64 6)).run Try.prog w = .ok (.agg #[x6]) w := by kernel_rfl
theorem doer_at7 (x0 x1 x2 x3 x4 x5 x6 x7 x8 : Value) (w : World) : (Instr.index 130 (.agg #[x0, x1, x2, x3, x4, x5, x6, x7, x8]) (.int .i64 7)).run Try.prog w = .ok (.agg #[x7]) w := by kernel_rfl
theorem doer_at8 (x0 x1 x2 x3 x4 x5 x6 x7 x8 : Value) (w : World) : (Instr.index 130 (.agg #[x0, x1, x2, x3, x4, x5, x6, x7, x8]) (.int .i64 8)).run Try.prog w = .ok (.agg #[x8]) w := by kernel_rfl
theorem doer_do (fn : Fn) (fi ca : Array Value) (w : World) : (Instr.field 129 (.agg #[.func fn fi ca]) 0).run Try.prog w = .ok (.func fn fi ca) w := by kernel_rfl
attribute [go_sem ↓] doer_do doer_at0 doer_at1 doer_at2 doer_at3 doer_at4 doer_at5 doer_at6 doer_at7 doer_at8

def DoPost (p a b : Int) (w : World) (e : Ending) (w' : World) : Prop := (∃ n, doP p a b = some n ∧ e = .returned (.tuple #[.int .i64 n, .int .i64 0]) ∧ Below w.heap.size w w') ∨ (doP p a b = none ∧ e = .returned (.tuple #[.int .i64 0, .int .i64 2]) ∧ Below w.heap.size w w')
theorem wrap31_wrap64 (n : Int) : wrap31 (wrap64 n) = wrap31 n := by unfold wrap31 wrap64; omega
theorem tup_int {a b c d : Int} (h1 : a = b) (h2 : c = d) : Ending.returned (.tuple #[.int .i64 a, .int .i64 c]) = .returned (.tuple #[.int .i64 b, .int .i64 d]) := by rw [h1, h2]
theorem doP_1 (a b : Int) : doP 1 a b = some (wrap31 (wrap31 a + wrap31 b)) := by simp [doP]
theorem doP_2 (a b : Int) : doP 2 a b = some (wrap31 (wrap31 a - wrap31 b)) := by simp [doP]
theorem doP_3 (a b : Int) : doP 3 a b = some (wrap31 (wrap31 a * wrap31 b)) := by simp [doP]
theorem doP_4 (a b : Int) (h : wrap31 b ≠ 0) : doP 4 a b = some (wrap31 ((wrap31 a).tdiv (wrap31 b))) := by simp [doP, h]
theorem doP_5 (a b : Int) (h : wrap31 b ≠ 0) : doP 5 a b = some (wrap31 ((wrap31 a).tmod (wrap31 b))) := by simp [doP, h]
theorem doP_6 (a b : Int) : doP 6 a b = some (wrap31 (if wrap31 a = wrap31 b then 1 else 0)) := by simp [doP]
theorem doP_7 (a b : Int) : doP 7 a b = some (wrap31 (if wrap31 a ≠ wrap31 b then 1 else 0)) := by simp [doP]
theorem doP_8 (a b : Int) : doP 8 a b = some (wrap31 (if wrap31 a < wrap31 b then 1 else 0)) := by simp [doP]
theorem doP_9 (a b : Int) : doP 9 a b = some (wrap31 (if wrap31 a ≤ wrap31 b then 1 else 0)) := by simp [doP]
set_option maxRecDepth 100000 in
set_option maxHeartbeats 1000000 in
theorem do_small (p a b : Int) (hp : p = 1 ∨ p = 2 ∨ p = 3) (w : World) : Calls Try.prog 74 #[.int .i64 p, .int .i64 a, .int .i64 b] w (DoPost p a b w) := by
  rcases hp with rfl | rfl | rfl
  all_goals
    go_enter Try.func74, Try.ntmps74
    go_wp2_with (first | (go_at_call 72; refine (wrap_any _ _).mono ?_; rintro e w' ⟨rfl, rfl⟩) | (go_at_call 76; refine (doers_any _).mono ?_; rintro e w1 ⟨b6, b7, b8, b9, rfl, h6, h7, h8, h9, hb1⟩) | (go_at_call 80; go_in) | (go_at_call 81; go_in) | (go_at_call 82; go_in))
    go_ret2
    first | exact .inl ⟨_, doP_1 a b, tup_int (by rw [wrap31_wrap64]) rfl, hb1⟩ | exact .inl ⟨_, doP_2 a b, tup_int (by rw [wrap31_wrap64]) rfl, hb1⟩ | exact .inl ⟨_, doP_3 a b, tup_int (by rw [wrap31_wrap64]) rfl, hb1⟩
set_option maxRecDepth 100000 in
set_option maxHeartbeats 1000000 in
theorem do_div (p a b : Int) (hp : p = 4 ∨ p = 5) (w : World) : Calls Try.prog 74 #[.int .i64 p, .int .i64 a, .int .i64 b] w (DoPost p a b w) := by
  by_cases hb : wrap31 b = 0
  · have hd : doP p a b = none := by simp [doP, hb, hp]
    have hb' : (wrap31 b == 0) = true := by simpa using hb
    have HD := Lib.hid hd
    clear hd
    rcases hp with rfl | rfl
    all_goals
      go_enter Try.func74, Try.ntmps74
      go_wp2_with (first | (go_at_call 72; refine (wrap_any _ _).mono ?_; rintro e w' ⟨rfl, rfl⟩) | (go_at_call 76; refine (doers_any _).mono ?_; rintro e w1 ⟨b6, b7, b8, b9, rfl, h6, h7, h8, h9, hb1⟩) )
      go_ret2
      exact .inr ⟨HD.out, rfl, Below.refl _ _⟩
  · have hb' : (wrap31 b == 0) = false := by simpa using hb
    rcases hp with rfl | rfl
    all_goals
      go_enter Try.func74, Try.ntmps74
      go_wp2_with (first | (go_at_call 72; refine (wrap_any _ _).mono ?_; rintro e w' ⟨rfl, rfl⟩) | (go_at_call 76; refine (doers_any _).mono ?_; rintro e w1 ⟨b6, b7, b8, b9, rfl, h6, h7, h8, h9, hb1⟩) | (go_at_call 83; go_in) | (go_at_call 84; go_in))
      go_ret2
      first | exact .inl ⟨_, doP_4 a b hb, tup_int (by first | rw [wrap31_wrap64] | rfl) rfl, hb1⟩ | exact .inl ⟨_, doP_5 a b hb, tup_int (by first | rw [wrap31_wrap64] | rfl) rfl, hb1⟩
set_option maxRecDepth 100000 in
set_option maxHeartbeats 2000000 in
theorem do_cmp (p a b : Int) (hp : p = 6 ∨ p = 7 ∨ p = 8 ∨ p = 9) (w : World) : Calls Try.prog 74 #[.int .i64 p, .int .i64 a, .int .i64 b] w (DoPost p a b w) := by
  rcases hp with rfl | rfl | rfl | rfl
  all_goals
    go_enter Try.func74, Try.ntmps74
    go_wp2_with (first | (go_at_call 72; refine (wrap_any _ _).mono ?_; rintro e w' ⟨rfl, rfl⟩) | (go_at_call 76; refine (doers_any _).mono ?_; rintro e w1 ⟨b6, b7, b8, b9, rfl, h6, h7, h8, h9, hb1⟩) | (go_at_call 78; go_in) | (go_at_call 79; go_in) | (go_at_call 85; go_in) | (go_at_call 86; go_in) | (go_at_call 87; go_in) | (go_at_call 88; go_in))
    all_goals
      go_ret2
      first
        | exact .inl ⟨_, doP_6 a b, tup_int (by simp_all) rfl, hb1⟩
        | exact .inl ⟨_, doP_7 a b, tup_int (by simp_all) rfl, hb1⟩
        | exact .inl ⟨_, doP_8 a b, tup_int (by first | rw [if_pos (by omega)] | rw [if_neg (by omega)]) rfl, hb1⟩
        | exact .inl ⟨_, doP_9 a b, tup_int (by first | rw [if_pos (by omega)] | rw [if_neg (by omega)]) rfl, hb1⟩

theorem do_any (p a b : Int) (h1 : 1 ≤ p) (h2 : p ≤ 9) (w : World) : Calls Try.prog 74 #[.int .i64 p, .int .i64 a, .int .i64 b] w (DoPost p a b w) := by
  by_cases h3 : p = 1 ∨ p = 2 ∨ p = 3
  · exact do_small p a b h3 w
  by_cases h4 : p = 4 ∨ p = 5
  · exact do_div p a b h4 w
  exact do_cmp p a b (by omega) w

end Go.Proofs.Ytnobggabjpcbfaa

/-
  The small functions of the flat evaluator: stuck, key, number.
-/
set_option linter.unusedVariables false
set_option linter.unusedSimpArgs false
namespace Go.Proofs.Ytnobggabjpcbfaa
open Go.RowKit

/-- what is thrown where a run stops; where something is raised -/
def stopV (k : Int) : List PanicEntry := [{ v := .iface 76 (.agg #[.int .i64 k]), recovered := false }]
def raisedV (g : Value) : List PanicEntry := [{ v := .iface 80 (.agg #[g]), recovered := false }]

/-! ### type assertions -/
theorem ta_i_i (x : Value) (w : World) : (Instr.typeAssert (.iface 90 x) 78 90 true).run Try.prog w = .ok (.tuple #[x, .bool true]) w := by kernel_rfl
theorem ta_b_i (x : Value) (w : World) : (Instr.typeAssert (.iface 91 x) 78 90 true).run Try.prog w = .ok (.tuple #[.int .i64 0, .bool false]) w := by kernel_rfl
theorem ta_f_i (x : Value) (w : World) : (Instr.typeAssert (.iface 109 x) 78 90 true).run Try.prog w = .ok (.tuple #[.int .i64 0, .bool false]) w := by kernel_rfl
theorem ta_c_i (x : Value) (w : World) : (Instr.typeAssert (.iface 117 x) 78 90 true).run Try.prog w = .ok (.tuple #[.int .i64 0, .bool false]) w := by kernel_rfl
theorem ta_i_b (x : Value) (w : World) : (Instr.typeAssert (.iface 90 x) 78 91 true).run Try.prog w = .ok (.tuple #[.pointer none, .bool false]) w := by kernel_rfl
theorem ta_b_b (x : Value) (w : World) : (Instr.typeAssert (.iface 91 x) 78 91 true).run Try.prog w = .ok (.tuple #[x, .bool true]) w := by kernel_rfl
theorem ta_f_b (x : Value) (w : World) : (Instr.typeAssert (.iface 109 x) 78 91 true).run Try.prog w = .ok (.tuple #[.pointer none, .bool false]) w := by kernel_rfl
theorem ta_c_b (x : Value) (w : World) : (Instr.typeAssert (.iface 117 x) 78 91 true).run Try.prog w = .ok (.tuple #[.pointer none, .bool false]) w := by kernel_rfl
theorem ta_i_f (x : Value) (w : World) : (Instr.typeAssert (.iface 90 x) 78 109 true).run Try.prog w = .ok (.tuple #[.pointer none, .bool false]) w := by kernel_rfl
theorem ta_b_f (x : Value) (w : World) : (Instr.typeAssert (.iface 91 x) 78 109 true).run Try.prog w = .ok (.tuple #[.pointer none, .bool false]) w := by kernel_rfl
theorem ta_f_f (x : Value) (w : World) : (Instr.typeAssert (.iface 109 x) 78 109 true).run Try.prog w = .ok (.tuple #[x, .bool true]) w := by kernel_rfl
theorem ta_c_f (x : Value) (w : World) : (Instr.typeAssert (.iface 117 x) 78 109 true).run Try.prog w = .ok (.tuple #[.pointer none, .bool false]) w := by kernel_rfl
theorem ta_i_c (x : Value) (w : World) : (Instr.typeAssert (.iface 90 x) 78 117 true).run Try.prog w = .ok (.tuple #[.pointer none, .bool false]) w := by kernel_rfl
theorem ta_b_c (x : Value) (w : World) : (Instr.typeAssert (.iface 91 x) 78 117 true).run Try.prog w = .ok (.tuple #[.pointer none, .bool false]) w := by kernel_rfl
theorem ta_f_c (x : Value) (w : World) : (Instr.typeAssert (.iface 109 x) 78 117 true).run Try.prog w = .ok (.tuple #[.pointer none, .bool false]) w := by kernel_rfl
theorem ta_c_c (x : Value) (w : World) : (Instr.typeAssert (.iface 117 x) 78 117 true).run Try.prog w = .ok (.tuple #[x, .bool true]) w := by kernel_rfl
theorem ta_s_s (x : Value) (w : World) : (Instr.typeAssert (.iface 76 x) 20 76 true).run Try.prog w = .ok (.tuple #[x, .bool true]) w := by kernel_rfl
theorem ta_s_r (x : Value) (w : World) : (Instr.typeAssert (.iface 76 x) 20 80 true).run Try.prog w = .ok (.tuple #[.agg #[.nilIface], .bool false]) w := by kernel_rfl
theorem ta_r_r (x : Value) (w : World) : (Instr.typeAssert (.iface 80 x) 20 80 true).run Try.prog w = .ok (.tuple #[x, .bool true]) w := by kernel_rfl
theorem ta_r_s (x : Value) (w : World) : (Instr.typeAssert (.iface 80 x) 20 76 true).run Try.prog w = .ok (.tuple #[.agg #[.int .i64 0], .bool false]) w := by kernel_rfl
attribute [go_sem ↓] ta_i_i ta_b_i ta_f_i ta_c_i ta_i_b ta_b_b ta_f_b ta_c_b ta_i_f ta_b_f ta_f_f ta_c_f ta_i_c ta_b_c ta_f_c ta_c_c ta_s_s ta_s_r ta_r_r ta_r_s

theorem stuck_any (w : World) : Calls Try.prog 50 #[] w fun e w' => e = .panicked (stopV 4) ∧ w = w' := by
  go_enter Try.func50, Try.ntmps50
  go_wp2
  exact ⟨rfl, rfl, rfl⟩

theorem key_int (n : Int) (w : World) : Calls Try.prog 35 #[.iface 90 (.int .i64 n)] w fun e w' => e = .returned (.int .i64 n) ∧ w = w' := by
  go_enter Try.func35, Try.ntmps35
  go_wp2_with fail
  go_ret
  exact ⟨rfl, rfl⟩
theorem key_blk (b : Nat) (n : Int) (w : World) (hc : w.cell? ⟨b, 0, none⟩ = some (.int .i64 n)) : Calls Try.prog 35 #[.iface 91 (.pointer (some ⟨b, 0, none⟩))] w fun e w' => e = .returned (.int .i64 n) ∧ w = w' := by
  go_enter Try.func35, Try.ntmps35
  go_wp2_with fail
  go_ret
  exact ⟨rfl, rfl⟩
theorem key_fn (a : Value) (w : World) : Calls Try.prog 35 #[.iface 109 a] w fun e w' => e = .panicked (stopV 4) ∧ w = w' := by
  go_enter Try.func35, Try.ntmps35
  go_wp2_with (go_at_call 50; refine (stuck_any _).mono ?_; rintro e w' ⟨rfl, rfl⟩)
  exact ⟨rfl, rfl, rfl⟩
theorem key_ref (a : Value) (w : World) : Calls Try.prog 35 #[.iface 117 a] w fun e w' => e = .panicked (stopV 4) ∧ w = w' := by
  go_enter Try.func35, Try.ntmps35
  go_wp2_with (go_at_call 50; refine (stuck_any _).mono ?_; rintro e w' ⟨rfl, rfl⟩)
  exact ⟨rfl, rfl, rfl⟩
/-- how a question of a value for a number ends -/
def AskedPost (o : Option Int) (w : World) (e : Ending) (w' : World) : Prop := (∃ n, o = some n ∧ e = .returned (.int .i64 n) ∧ w = w') ∨ (o = none ∧ e = .panicked (stopV 4) ∧ w = w')
theorem key_any {rb : Nat} {m : Mem} {W : World} {v : PV} {g : Value} (h : RepV rb m W v g) : Calls Try.prog 35 #[g] W (AskedPost (keyOf v) W) := by
  cases h with
  | int n => exact (key_int n W).mono fun e w' ⟨h1, h2⟩ => .inl ⟨n, rfl, h1, h2⟩
  | @blk tag kids b g cap F hb hg hgm hl h0 h8 hc hk => exact (key_blk b tag W (at_cell0 hb rfl)).mono fun e w' ⟨h1, h2⟩ => .inl ⟨tag, rfl, h1, h2⟩
  | fn h => exact (key_fn _ W).mono fun e w' ⟨h1, h2⟩ => .inr ⟨rfl, h1, h2⟩
  | ref h => exact (key_ref _ W).mono fun e w' ⟨h1, h2⟩ => .inr ⟨rfl, h1, h2⟩

theorem number_int (n : Int) (w : World) : Calls Try.prog 71 #[.iface 90 (.int .i64 n)] w fun e w' => e = .returned (.int .i64 n) ∧ w = w' := by
  go_enter Try.func71, Try.ntmps71
  go_wp2_with fail
  go_ret
  exact ⟨rfl, rfl⟩
theorem number_other (T : TypeId) (hT : T = 91 ∨ T = 109 ∨ T = 117) (a : Value) (w : World) : Calls Try.prog 71 #[.iface T a] w fun e w' => e = .panicked (stopV 4) ∧ w = w' := by
  rcases hT with rfl | rfl | rfl
  all_goals
    go_enter Try.func71, Try.ntmps71
    go_wp2_with (go_at_call 50; refine (stuck_any _).mono ?_; rintro e w' ⟨rfl, rfl⟩)
    exact ⟨rfl, rfl, rfl⟩
theorem cnumber_any {rb : Nat} {m : Mem} {W : World} {v : PV} {g : Value} (h : RepV rb m W v g) : Calls Try.prog 71 #[g] W (AskedPost (numOf v) W) := by
  cases h with
  | int n => exact (number_int n W).mono fun e w' ⟨h1, h2⟩ => .inl ⟨n, rfl, h1, h2⟩
  | blk hb hg hgm hl h0 h8 hc hk => exact (number_other _ (.inl rfl) _ W).mono fun e w' ⟨h1, h2⟩ => .inr ⟨rfl, h1, h2⟩
  | fn h => exact (number_other _ (.inr (.inl rfl)) _ W).mono fun e w' ⟨h1, h2⟩ => .inr ⟨rfl, h1, h2⟩
  | ref h => exact (number_other _ (.inr (.inr rfl)) _ W).mono fun e w' ⟨h1, h2⟩ => .inr ⟨rfl, h1, h2⟩

end Go.Proofs.Ytnobggabjpcbfaa

/-
  The flat evaluator: what an atom is.
-/
set_option linter.unusedVariables false
set_option linter.unusedSimpArgs false
namespace Go.Proofs.Ytnobggabjpcbfaa
open Go.RowKit

theorem lookup_cons (x y : Int) (v : PV) (e : PEnv) : lookup ((y, v) :: e) x = if y = x then some v else lookup e x := by
  unfold lookup
  by_cases h : y = x
  · simp [h]
  · have : (y == x) = false := by simpa using h
    simp [List.find?_cons, this, h]
/-- what is asked of the world W in which it is known, at the world V of the call -/
def AtomPost (rb : Nat) (m : Mem) (W V : World) (o : Option PV) (e : Ending) (w' : World) : Prop := (∃ v T x, o = some v ∧ e = .returned (.iface T x) ∧ RepV rb m W v (.iface T x) ∧ Below V.heap.size V w') ∨ (o = none ∧ e = .panicked (stopV 4) ∧ Below V.heap.size V w')
theorem atom_int {rb : Nat} {m : Mem} {W V : World} (g : Value) (n : Int) : Calls Try.prog 54 #[g, .agg #[.bool false, .int .i64 n]] V (AtomPost rb m W V (some (.int n))) := by
  obtain ⟨W0, hW0⟩ : ∃ W0, V.alloc (.cells #[.bool false, .int .i64 n] 25) = W0 := ⟨_, rfl⟩
  have hb0 : Below V.heap.size V W0 := by rw [← hW0]; exact (Below.refl _ _).alloc (Nat.le_refl _) _
  have e0 : W0.cell? ⟨V.heap.size, 0, none⟩ = some (.bool false) := by rw [← hW0, World.cell?_alloc_at _ _ _ _ rfl]; rfl
  have e1 : W0.cell? ⟨V.heap.size, 1, none⟩ = some (.int .i64 n) := by rw [← hW0, World.cell?_alloc_at _ _ _ _ rfl]; rfl
  have HB := Lib.hid hb0
  clear hb0
  go_enter Try.func54, Try.ntmps54
  go_wp2_with fail
  go_ret
  exact .inl ⟨.int n, _, _, rfl, rfl, .int n, HB.out⟩
set_option maxHeartbeats 1000000 in
theorem atom_var {rb : Nat} {m : Mem} {W V : World} (hWV : Below W.heap.size W V) {env : PEnv} {g : Value} (h : EnvIn rb m W env g) (x : Int) : Calls Try.prog 54 #[g, .agg #[.bool true, .int .i64 x]] V (AtomPost rb m W V (lookup env x)) := by
  obtain ⟨W0, hW0⟩ : ∃ W0, V.alloc (.cells #[.bool true, .int .i64 x] 25) = W0 := ⟨_, rfl⟩
  have hb0 : Below V.heap.size V W0 := by rw [← hW0]; exact (Below.refl _ _).alloc (Nat.le_refl _) _
  have hs0 : V.heap.size < W0.heap.size := by rw [← hW0]; simp
  have e0 : W0.cell? ⟨V.heap.size, 0, none⟩ = some (.bool true) := by rw [← hW0, World.cell?_alloc_at _ _ _ _ rfl]; rfl
  have e1 : W0.cell? ⟨V.heap.size, 1, none⟩ = some (.int .i64 x) := by rw [← hW0, World.cell?_alloc_at _ _ _ _ rfl]; rfl
  have HB0 := Lib.hid hb0
  have HS0 := Lib.hid hs0
  have HWV := Lib.hid hWV
  have HEN := Lib.hid h
  clear hb0 hs0 h hWV
  go_enter Try.func54, Try.ntmps54
  go_wp2_with fail
  go_loopg [0] env.length (fun k p wr => Hid (Below W0.heap.size W0 wr) ∧ ∃ e' : PEnv, Hid (EnvIn rb m W e' p) ∧ Hid (e'.length = k) ∧ Hid (lookup env x = lookup e' x))
  case atStart => exact ⟨Lib.hid (Below.refl _ _), env, HEN, Lib.hid rfl, Lib.hid rfl⟩
  case round =>
    obtain ⟨HW, e', HE, HK, HL⟩ := hrel
    have q1 : wr.cell? ⟨V.heap.size, 1, none⟩ = some (.int .i64 x) := (HW.out.cell (p := ⟨V.heap.size, 1, none⟩) HS0.out).trans e1
    have hWr : Below V.heap.size V wr := HB0.out.trans (HW.out.mono (Nat.le_of_lt HS0.out))
    have HWR := Lib.hid hWr
    clear hWr
    have he := HE.out
    cases he with
    | nil =>
      clear HE
      go_wp2_with (go_at_call 50; refine (stuck_any _).mono ?_; rintro e w' ⟨rfl, rfl⟩)
      exact ⟨rfl, .inr ⟨HL.out, rfl, HWR.out⟩⟩
    | @cons y v e gv nx b hb hv he =>
      clear HE
      have hev : Evo rb m m W wr := Evo.below (HWV.out.trans (HWR.out.mono HWV.out.size))
      have c0 := at_cell0 (hb.evo hev) (i := 0) rfl
      have c1 := at_cell0 (hb.evo hev) (i := 1) rfl
      have c2 := at_cell0 (hb.evo hev) (i := 2) rfl
      obtain ⟨T, gx, rfl⟩ := hv.shape
      obtain ⟨pn, rfl⟩ := he.shape
      have HV := Lib.hid hv
      have HE := Lib.hid he
      simp only [List.getElem_toArray, List.getElem_cons_zero, List.getElem_cons_succ] at c0 c1 c2
      clear hev hb hv he
      by_cases hx : y = x
      · have hx' : (y == x) = true := by simpa using hx
        have hl2 := Lib.hid (HL.out.trans ((lookup_cons x y v e).trans (if_pos hx)))
        have HX := Lib.hid hx
        clear hx
        go_wp2_with fail
        go_quiet (fail)
        go_wp2_with fail
        go_ret
        exact .inl ⟨v, _, _, hl2.out, rfl, HV.out, below_drewN HWR.out _⟩
      · have hx' : (y == x) = false := by simpa using hx
        have hl2 := Lib.hid (HL.out.trans ((lookup_cons x y v e).trans (if_neg hx)))
        go_wp2_with fail
        go_quiet (fail)
        go_wp2_with fail
        go_roundg e.length
        case measure => have := HK.out; simp at this; omega
        case rel => exact ⟨Lib.hid (below_drewN HW.out _), e, HE, Lib.hid rfl, hl2⟩
theorem atom_any {rb : Nat} {m : Mem} {W V : World} (hWV : Below W.heap.size W V) {env : PEnv} {g : Value} (h : EnvIn rb m W env g) (a : Atm) : Calls Try.prog 54 #[g, .agg #[.bool a.v, .int .i64 a.n]] V (AtomPost rb m W V (atomP env a)) := by
  obtain ⟨v, n⟩ := a
  cases v
  · exact atom_int g n
  · exact atom_var hWV h n
end Go.Proofs.Ytnobggabjpcbfaa

/-
  The flat evaluator: what atoms are, from the left.
-/
set_option linter.unusedVariables false
set_option linter.unusedSimpArgs false
namespace Go.Proofs.Ytnobggabjpcbfaa
open Go.RowKit

theorem infoVal : (Try.prog.info? 78).map (fun i => (i.zero, i.size, i.bytes)) = some (some .nilIface, 1, 16) := by kernel_rfl
theorem undVals : Try.prog.underlying 92 = some (.slice 78) := by kernel_rfl
/-- values in a new row -/
def RowZ (rb : Nat) (m : Mem) (W : World) (l : List PV) (A : Option Addr) : Prop :=
  0 < l.length → ∃ (g : Nat) (F : Nat → Value), A = some ⟨g, 0, none⟩ ∧ g < W.heap.size ∧ ¬ m.mut rb g ∧ (∀ j, j < l.length → W.cell? ⟨g, j, none⟩ = some (F j)) ∧ ∀ j (h : j < l.length), RepV rb m W l[j] (F j)
theorem RowZ.row {rb : Nat} {m : Mem} {W : World} {l : List PV} {A : Option Addr} (h : RowZ rb m W l A) : RowV rb m W l A := fun h0 => by
  obtain ⟨g, F, h1, h2, h3, h4, h5⟩ := h h0
  exact ⟨g, 0, F, h1, h2, h3, fun j hj => by simpa using h4 j hj, h5⟩
theorem RowZ.evo {rb : Nat} {m m' : Mem} {W W' : World} (hk : Evo rb m m' W W') {l : List PV} {A : Option Addr} (h : RowZ rb m W l A) : RowZ rb m' W' l A := fun h0 => by
  obtain ⟨g, F, rfl, hg, hm, hc, hr⟩ := h h0
  exact ⟨g, F, rfl, Nat.lt_of_lt_of_le hg hk.size, hk.still hg hm, fun j hj => (cell_of_heap (hk.same _ hg hm) _).trans (hc j hj), fun j hj => (hr j hj).evo hk⟩
def AtomsPost (rb : Nat) (m : Mem) (W : World) (o : Option (List PV)) (e : Ending) (w' : World) : Prop :=
  (∃ l A cap, o = some l ∧ e = .returned (.slice A l.length cap) ∧ l.length ≤ cap ∧ RowZ rb m w' l A ∧ Below W.heap.size W w') ∨ (o = none ∧ e = .panicked (stopV 4) ∧ Below W.heap.size W w')
theorem atomsP_take {e : PEnv} : ∀ (l : List Atm) (j : Nat) (h : j < l.length) (acc : List PV), atomsP e (l.take j) = some acc → (∀ v, atomP e l[j] = some v → atomsP e (l.take (j + 1)) = some (acc ++ [v])) ∧ (atomP e l[j] = none → atomsP e l = none)
  | a :: l, 0, h, acc, h1 => by
    simp only [List.take_zero, atomsP, Option.some.injEq] at h1
    subst h1
    refine ⟨fun v hv => ?_, fun hv => ?_⟩
    · simp only [List.getElem_cons_zero] at hv
      simp [atomsP, hv]
    · simp only [List.getElem_cons_zero] at hv
      simp [atomsP, hv]
  | a :: l, j + 1, h, acc, h1 => by
    simp only [List.take_succ_cons, atomsP] at h1
    cases ha : atomP e a with
    | none => rw [ha] at h1; cases h1
    | some v0 =>
      rw [ha] at h1
      simp only [Option.map_eq_some_iff] at h1
      obtain ⟨acc', h2, rfl⟩ := h1
      obtain ⟨q1, q2⟩ := atomsP_take l j (by simpa using h) acc' h2
      refine ⟨fun v hv => ?_, fun hv => ?_⟩
      · simp only [List.getElem_cons_succ] at hv
        simp only [List.take_succ_cons, atomsP, ha, q1 v hv]
        rfl
      · simp only [List.getElem_cons_succ] at hv
        simp only [atomsP, ha, q2 hv]
        rfl
/-- a row that is being filled -/
structure FillIn (rb : Nat) (m : Mem) (W : World) (acc : List PV) (wr : World) (rv : Value) (Fs : List Value) : Prop where
  below : Below W.heap.size W wr
  row : wr.ownsRow W.heap.size 78 1 rv acc.length Fs
  rep : ∀ i (h : i < acc.length), ∃ F, Fs[i]? = some F ∧ RepV rb m W acc[i] F
theorem FillIn.start (rb : Nat) (m : Mem) (W : World) : FillIn rb m W [] W (.slice none 0 0) [] := ⟨Below.refl _ _, ⟨by simp, .inl ⟨rfl, rfl⟩⟩, by intro i h; simp at h⟩
theorem FillIn.behind {rb : Nat} {m : Mem} {W : World} {acc : List PV} {wr : World} {rv : Value} {Fs : List Value} (h : FillIn rb m W acc wr rv Fs) {V : World} (hV : Below wr.heap.size wr V) : FillIn rb m W acc V rv Fs :=
  ⟨h.below.trans (hV.mono h.below.size), h.row.kept ⟨hV.os, hV.tape, hV.output, hV.size, fun i hi _ => hV.block i hi⟩ (row := none) (by cases rv.ownBlock <;> simp), h.rep⟩
theorem FillIn.more {rb : Nat} {m : Mem} {W : World} {acc : List PV} {wr : World} {rv : Value} {Fs : List Value} (h : FillIn rb m W acc wr rv Fs) {v : PV} {F : Value} (hv : RepV rb m W v F) {w1 : World} {rv' : Value}
    (hown : w1.ownsRow W.heap.size 78 1 rv' (acc.length + 1) (Fs ++ [F])) (hgrow : (wr.alloc (.cells #[F] 78)).grownBy w1 rv.ownBlock) : FillIn rb m W (acc ++ [v]) w1 rv' (Fs ++ [F]) := by
  have hs := h.below.size
  have hb1 : Below W.heap.size W (wr.alloc (.cells #[F] 78)) := h.below.alloc hs _
  refine ⟨hb1.grown hgrow hb1.size (fun j hj => (h.row.lt j hj).1), by simpa using hown, fun i hi => ?_⟩
  have hl : Fs.length = acc.length := by simpa using h.row.1
  by_cases hi' : i < acc.length
  · obtain ⟨F', h1, h2⟩ := h.rep i hi'
    exact ⟨F', by rw [List.getElem?_append_left (by omega)]; exact h1, by rw [List.getElem_append_left hi']; exact h2⟩
  · have : i = acc.length := by simp at hi; omega
    subst this
    exact ⟨F, by rw [List.getElem?_append_right (by omega)]; simp [hl], by simpa using hv⟩
theorem FillIn.whole {rb : Nat} {m : Mem} {W : World} (hm : ∀ k, m.mut rb k → k < W.heap.size) {acc : List PV} {wr : World} {rv : Value} {Fs : List Value} (h : FillIn rb m W acc wr rv Fs) : ∃ A cap, rv = .slice A acc.length cap ∧ acc.length ≤ cap ∧ RowZ rb m wr acc A := by
  rcases h.row.2 with ⟨rfl, h0⟩ | ⟨g, cap, cur, rfl, hlo, hgg, hn, _, _, _⟩
  · exact ⟨none, 0, by rw [h0], by omega, fun h => by omega⟩
  · refine ⟨some ⟨g, 0, none⟩, cap, rfl, hn, fun h0 => ⟨g, fun i => Fs[i]?.getD .nilIface, rfl, (h.row.lt g rfl).2, fun hk => by have := hm g hk; omega, fun i hi => ?_, fun i hi => ?_⟩⟩
    · obtain ⟨F, h1, h2⟩ := h.rep i hi
      have := World.ownsRow.cells h.row (g := g) rfl i F h1
      have ha : (⟨g, 0, none⟩ : Addr).add i = ⟨g, i, none⟩ := by unfold Addr.add; split <;> simp_all
      rw [ha] at this
      simpa [h1] using this
    · obtain ⟨F, h1, h2⟩ := h.rep i hi
      simpa [h1] using h2.evo (Evo.below h.below)

set_option maxRecDepth 100000 in
set_option maxHeartbeats 2000000 in
theorem atoms_any {rb : Nat} {m : Mem} {W : World} (hm : ∀ k, m.mut rb k → k < W.heap.size) {env : PEnv} {g : Value} (h : EnvIn rb m W env g) {ats : List Atm} {Aa : Option Addr} {ca : Nat} (ha : AtomsIn W.heap.size W Aa ats) :
    Calls Try.prog 64 #[g, .slice Aa ats.length ca] W (AtomsPost rb m W (atomsP env ats)) := by
  obtain ⟨i0, hinf, hz0, hz1, hz2⟩ := info_parts infoVal
  obtain ⟨pg, rfl⟩ := h.shape
  have h16 := ha.1
  have HA := Lib.hid (fun (j : Nat) (hj : j < ats.length) (V : World) (hV : Below W.heap.size W V) => (show ∃ b o, Aa = some ⟨b, o, none⟩ ∧ V.cell? ⟨b, o + j * 2, none⟩ = some (.bool ats[j].v) ∧ V.cell? ⟨b, o + j * 2 + 1, none⟩ = some (.int .i64 ats[j].n) from by
    rcases ha.2 with rfl | ⟨b, o, rfl, hlt, hc⟩
    · simp at hj
    · have := hc j hj
      simp only [List.getElem?_eq_getElem hj, Option.getD_some] at this
      exact ⟨b, o, rfl, (hV.cell (p := ⟨_, _, none⟩) hlt).trans this.1, (hV.cell (p := ⟨_, _, none⟩) hlt).trans this.2⟩))
  have HC := Lib.hid (fun (a : Atm) (V : World) (hV : Below W.heap.size W V) => atom_any hV h a)
  have HM := Lib.hid hm
  clear ha h hm
  obtain ⟨L, hL⟩ : ∃ L, ats.length = L := ⟨_, rfl⟩
  have HL := Lib.hid hL
  rw [hL] at h16 ⊢
  clear hL
  go_enter Try.func64, Try.ntmps64
  go_wp2_with fail
  go_loopw [5, 10] (fun rv i wr => ∃ (j : Nat) (acc : List PV) (Fs : List Value), j ≤ L ∧ i = .int .i64 (j : Int) ∧ Hid (acc.length = j) ∧ Hid (FillIn rb m W acc wr rv Fs) ∧ Hid (atomsP env (ats.take j) = some acc)) (fun _ i _ => L + 1 - (intOf i).toNat)
  case atStart => exact ⟨0, [], [], by omega, rfl, Lib.hid rfl, Lib.hid (FillIn.start _ _ _), Lib.hid rfl⟩
  case round =>
    obtain ⟨j, acc, Fs, hj, rfl, HJ, HF, HP⟩ := hrel
    by_cases hlt : j < L
    · have hj0 : (0 : Int) ≤ (j : Int) := by omega
      have hjl : (j : Int) < (L : Int) := by omega
      have hja : j < ats.length := by rw [HL.out]; exact hlt
      obtain ⟨b, o, rfl, c0, c1⟩ := HA.out j hja wr HF.out.below
      have HT := Lib.hid (atomsP_take ats j hja acc HP.out)
      have HC1 := Lib.hid (HC.out ats[j])
      generalize ats[j] = at_ at *
      obtain ⟨av, an⟩ := at_
      obtain ⟨W1, hW1⟩ : ∃ W1, wr.alloc (.cells #[.bool av, .int .i64 an] 25) = W1 := ⟨_, rfl⟩
      have hb1 : Below wr.heap.size wr W1 := by rw [← hW1]; exact (Below.refl _ _).alloc (Nat.le_refl _) _
      have r0 : W1.cell? ⟨wr.heap.size, 0, none⟩ = some (.bool av) := by rw [← hW1, World.cell?_alloc_at _ _ _ _ rfl]; rfl
      have r1 : W1.cell? ⟨wr.heap.size, 1, none⟩ = some (.int .i64 an) := by rw [← hW1, World.cell?_alloc_at _ _ _ _ rfl]; rfl
      have hbW : Below W.heap.size W W1 := HF.out.below.trans (hb1.mono HF.out.below.size)
      have HCA := Lib.hid (HC1.out W1 hbW)
      have HB1 := Lib.hid hb1
      have hml : j + 1 ≤ maxLen := by unfold maxLen; omega
      have HROW := Lib.hid (fun (w' : World) (hw : Below W1.heap.size W1 w') => (show FillIn rb m W acc w' u5 Fs from (HF.out.behind HB1.out).behind hw))
      clear hbW hb1 HC1
      go_wp2_with (first
        | (go_at_call 54; refine HCA.out.mono ?_; rintro en w' (⟨v, T, x, hv, rfl, hrv, hw⟩ | ⟨hv, rfl, hw⟩); rotate_left; exact ⟨rfl, .inr ⟨HT.out.2 hv, rfl, (HF.out.below.trans (HB1.out.mono HF.out.below.size)).trans (hw.mono (Nat.le_trans HF.out.below.size HB1.out.size))⟩⟩)
        | (at_builtin; refine wpList_append_own_at _ rfl _ _ 92 rfl W.heap.size 78 i0 .nilIface 1 16 undVals hinf hz0 hz1 hz2 rfl (by decide) _ _ _ rfl (((HROW.out _ hw).row).alloc _) ⟨w'.heap.size, 0, none⟩ 1 1 [.iface T x] rfl rfl (cell_one_new _ _ _) (by simp [Value.oneCell']) (by rw [HJ.out]; exact hml) (by rw [HJ.out]; omega) (by rw [World.size_alloc]; exact Nat.le_succ_of_le (HROW.out _ hw).below.size) ?_; intro v' w1 hown' hgrow _ hat))
      have hgrow' := hgrow
      change World.grownBy _ w1 u5.ownBlock at hgrow'
      have HM2 := Lib.hid ((HROW.out _ hw).more hrv hown' hgrow')
      have HP2 := Lib.hid (HT.out.1 v hv)
      clear hgrow hgrow' hat hown' hrv hv hw
      go_roundw
      case rel => exact ⟨j + 1, acc ++ [v], _, by omega, by go_num, Lib.hid (by simp [HJ.out]), HM2, HP2⟩
      case measure => simp [intOf]; omega
    · have hjl : ¬ (j : Int) < (L : Int) := by omega
      obtain ⟨A, cap, rfl, hcap, hrow⟩ := HF.out.whole HM.out
      have HR := Lib.hid hrow
      have hje : j = L := by omega
      clear hrow
      have HE := Lib.hid (show AtomsPost rb m W (atomsP env ats) (.returned (.slice A acc.length cap)) wr from .inl ⟨acc, A, cap, by have := HP.out; rw [List.take_of_length_le (by rw [HL.out]; omega)] at this; exact this, rfl, hcap, HR.out, HF.out.below⟩)
      clear hcap
      go_wp2_with fail
      go_ret
      exact HE.out
end Go.Proofs.Ytnobggabjpcbfaa

/-
  clos: group, functions, rising.
-/
set_option linter.unusedVariables false
set_option linter.unusedSimpArgs false
namespace Go.Proofs.Ytnobggabjpcbfaa
open Go.RowKit

theorem infoI : (Try.prog.info? 3).map (fun i => (i.zero, i.size, i.bytes)) = some (some (.int .i64 0), 1, 8) := by kernel_rfl
theorem undI : Try.prog.underlying 30 = some (.slice 3) := by kernel_rfl
theorem own_intsD {w : World} {base n : Nat} {e : TypeId} {v : Value} {xs : List Int} (h : w.ownsRow base e 1 v n (xs.map (Value.int .i64))) (hb : xs.length * 8 ≤ 140737488351232) :
    ∃ A c, v = .slice A xs.length c ∧ IntsIn w.heap.size w A xs ∧ xs.length ≤ c := by
  have hl : xs.length = n := by have := h.1; simpa using this
  rcases h.2 with ⟨rfl, h0⟩ | ⟨g, cap, cur, rfl, _, hg, hn, _⟩
  · refine ⟨none, 0, by rw [hl, h0], ⟨hb, .inl (List.length_eq_zero_iff.1 (by omega))⟩, by omega⟩
  · refine ⟨some ⟨g, 0, none⟩, cap, by rw [hl], ⟨hb, .inr ⟨g, 0, rfl, (h.lt g rfl).2, fun j hj => ?_⟩⟩, by omega⟩
    have := World.ownsRow.cells h (g := g) rfl j (.int .i64 (nth xs j)) (by simp [nth_eq _ hj, hj])
    have ha : (⟨g, 0, none⟩ : Addr).add j = ⟨g, 0 + j, none⟩ := by unfold Addr.add; split <;> simp_all
    rw [ha] at this
    exact this
/-- a right side's copy in memory -/
structure RhsAt (w W0 : World) (b : Nat) (k n : Int) (Aa Ak Al : Option Addr) (na ca nk ck nb cb : Nat) : Prop where
  c0 : W0.cell? ⟨b, 0, none⟩ = some (.int .i64 k)
  c1 : W0.cell? ⟨b, 1, none⟩ = some (.int .i64 n)
  c2 : W0.cell? ⟨b, 2, none⟩ = some (.slice Aa na ca)
  c3 : W0.cell? ⟨b, 3, none⟩ = some (.slice Ak nk ck)
  c4 : W0.cell? ⟨b, 4, none⟩ = some (.slice Al nb cb)
  lt : b < W0.heap.size
theorem RhsAt.new (w : World) (k n : Int) (Aa Ak Al : Option Addr) (na ca nk ck nb cb : Nat) : RhsAt w (w.alloc (.cells #[.int .i64 k, .int .i64 n, .slice Aa na ca, .slice Ak nk ck, .slice Al nb cb] 52)) w.heap.size k n Aa Ak Al na ca nk ck nb cb :=
  ⟨by rw [World.cell?_alloc_at _ _ _ _ rfl]; rfl, by rw [World.cell?_alloc_at _ _ _ _ rfl]; rfl, by rw [World.cell?_alloc_at _ _ _ _ rfl]; rfl, by rw [World.cell?_alloc_at _ _ _ _ rfl]; rfl, by rw [World.cell?_alloc_at _ _ _ _ rfl]; rfl, by simp⟩
theorem RhsAt.behind {w W0 V : World} {b : Nat} {k n : Int} {Aa Ak Al : Option Addr} {na ca nk ck nb cb : Nat} (h : RhsAt w W0 b k n Aa Ak Al na ca nk ck nb cb) (hV : Below W0.heap.size W0 V) : RhsAt w V b k n Aa Ak Al na ca nk ck nb cb :=
  ⟨(hV.cell (p := ⟨_, _, none⟩) h.lt).trans h.c0, (hV.cell (p := ⟨_, _, none⟩) h.lt).trans h.c1, (hV.cell (p := ⟨_, _, none⟩) h.lt).trans h.c2, (hV.cell (p := ⟨_, _, none⟩) h.lt).trans h.c3, (hV.cell (p := ⟨_, _, none⟩) h.lt).trans h.c4, Nat.lt_of_lt_of_le h.lt hV.size⟩

set_option maxRecDepth 100000 in
set_option maxHeartbeats 1000000 in
theorem cgroup_any (k n : Int) (Aa Ak Al : Option Addr) (na ca ck nb cb : Nat) (ks : List Int) (w : World) (hk : IntsIn w.heap.size w Ak ks) (hkc : ks.length ≤ ck) :
    Calls Try.prog 45 #[.agg #[.int .i64 k, .int .i64 n, .slice Aa na ca, .slice Ak ks.length ck, .slice Al nb cb]] w fun e w' => ∃ A c, e = .returned (.slice A (groupV ks).length c) ∧ IntsIn w'.heap.size w' A (groupV ks) ∧ (groupV ks).length ≤ c ∧ Below w.heap.size w w' := by
  obtain ⟨W0, hW0⟩ : ∃ W0, w.alloc (.cells #[.int .i64 k, .int .i64 n, .slice Aa na ca, .slice Ak ks.length ck, .slice Al nb cb] 52) = W0 := ⟨_, rfl⟩
  have hb0 : Below w.heap.size w W0 := by rw [← hW0]; exact (Below.refl _ _).alloc (Nat.le_refl _) _
  have hR : RhsAt w W0 w.heap.size k n Aa Ak Al na ca ks.length ck nb cb := by rw [← hW0]; exact RhsAt.new _ _ _ _ _ _ _ _ _ _ _ _
  have HR := Lib.hid (fun (V : World) (hV : Below W0.heap.size W0 V) => (hR.behind hV).c3)
  have HK := Lib.hid (fun (V : World) (hV : Below W0.heap.size W0 V) (j : Nat) (hj : j < ks.length) => (show ∃ b o, Ak = some ⟨b, o, none⟩ ∧ V.cell? ⟨b, o + j, none⟩ = some (.int .i64 (nth ks j)) from by
    obtain ⟨b, o, h1, h2, h3⟩ := hk.at_ (by omega)
    exact ⟨b, o, h1, ((hb0.trans (hV.mono hb0.size)).cell (p := ⟨_, _, none⟩) h2).trans (h3 j hj)⟩))
  obtain ⟨i0, hinf, hz0, hz1, hz2⟩ := info_parts infoI
  have hl := groupV_len ks
  have HG := Lib.hid (groupV_get ks)
  have h64 := hk.1
  have HB := Lib.hid hb0
  clear hk hR hb0
  obtain ⟨L, hL⟩ : ∃ L, ks.length = L := ⟨_, rfl⟩
  rw [hL] at hW0 hkc HR HK hl HG h64 ⊢
  clear hL
  have hG8 : (groupV ks).length * 8 ≤ 140737488351232 := by omega
  have HG8 := Lib.hid hG8
  obtain ⟨G, hG⟩ : ∃ G, groupV ks = G := ⟨_, rfl⟩
  rw [hG] at hl HG HG8 ⊢
  have HL := Lib.hid hl
  clear hG hG8
  obtain ⟨M, hM⟩ : ∃ M, G.length = M := ⟨_, rfl⟩
  have HM := Lib.hid hM
  rw [hM] at hl
  clear hM
  go_enter Try.func45, Try.ntmps45
  go_wp2_with fail
  go_loopw [3, 4] (fun rv iv wr => ∃ j : Nat, j ≤ M ∧ iv = .int .i64 (3 * (j : Int)) ∧ Hid (wr.ownsRow W0.heap.size 3 1 rv j ((G.take j).map (Value.int .i64))) ∧ Hid (Below W0.heap.size W0 wr)) (fun _ iv _ => 3 * M + 3 - (intOf iv).toNat)
  case atStart => exact ⟨0, by omega, rfl, Lib.hid ⟨by simp, .inl ⟨rfl, rfl⟩⟩, Lib.hid (Below.refl _ _)⟩
  case round =>
    obtain ⟨j, hj, rfl, HO, HW⟩ := hrel
    have q3 := HR.out wr HW.out
    by_cases hlt : j < M
    · have hj1 : 3 * j < L := by omega
      obtain ⟨b, o, rfl, qk⟩ := HK.out wr HW.out (3 * j) hj1
      have e1 : (0 : Int) ≤ 3 * (j : Int) := by omega
      have e2 : 3 * (j : Int) < (L : Int) := by omega
      have e3 : (3 * (j : Int)).toNat = 3 * j := by omega
      have e4 : IntKind.i64.wrap (3 * (j : Int) + 3) = 3 * (j : Int) + 3 := by rw [IntKind.wrap_i64]; omega
      have e5 : (L : Int) ≤ (ck : Int) := by omega
      have hml : j + 1 ≤ maxLen := by unfold maxLen; omega
      have HGJ := Lib.hid (HG.out j hj1)
      have hrow := Lib.hid (show (wr.alloc (.cells #[.int .i64 (nth ks (3 * j))] 3)).ownsRow W0.heap.size 3 1 u3 j ((G.take j).map (Value.int .i64)) from HO.out.alloc _)
      have hws := HW.out.size
      go_wp2_with (at_builtin; refine wpList_append_own_at _ rfl _ _ 30 rfl W0.heap.size 3 i0 (.int .i64 0) 1 8 undI hinf hz0 hz1 hz2 rfl (by decide) _ _ _ rfl hrow.out ⟨wr.heap.size, 0, none⟩ 1 1 [.int .i64 (nth ks (3 * j))] rfl rfl (cell_one_new _ _ _) (by simp [Value.oneCell']) hml (by omega) (by rw [World.size_alloc]; omega) ?_; intro v' w1 hown' hgrow _ hat)
      have hgrow' := hgrow
      change World.grownBy _ w1 u3.ownBlock at hgrow'
      have hb1 : Below W0.heap.size W0 (wr.alloc (.cells #[.int .i64 (nth ks (3 * j))] 3)) := HW.out.alloc hws _
      have HW2 := Lib.hid (hb1.grown hgrow' hb1.size (fun q hq => (HO.out.lt q hq).1))
      have HO2 := Lib.hid (show w1.ownsRow W0.heap.size 3 1 v' (j + 1) ((G.take (j + 1)).map (Value.int .i64)) from by
        have he : G.take (j + 1) = G.take j ++ [nth ks (3 * j)] := by rw [List.take_add_one, HGJ.out]; rfl
        rw [he, List.map_append]
        exact hown')
      clear hgrow hgrow' hat hown' hb1
      go_roundw
      case rel => exact ⟨j + 1, by omega, by go_num, HO2, HW2⟩
      case measure => simp [intOf]; omega
    · have hjM : j = M := by omega
      have e2 : ¬ 3 * (j : Int) < (L : Int) := by omega
      have ho := HO.out
      rw [List.take_of_length_le (by rw [HM.out]; omega)] at ho
      obtain ⟨A, c, rfl, h1, h2⟩ := own_intsD ho HG8.out
      have HE := Lib.hid (show ∃ A' c', Ending.returned (.slice A G.length c) = .returned (.slice A' G.length c') ∧ IntsIn wr.heap.size wr A' G ∧ G.length ≤ c' ∧ Below w.heap.size w wr from ⟨A, c, rfl, h1, h2, HB.out.trans (HW.out.mono HB.out.size)⟩)
      clear ho h1 h2
      go_wp2_with fail
      go_ret
      exact HE.out

set_option maxRecDepth 100000 in
set_option maxHeartbeats 1000000 in
theorem functions_any {cb_ mb nf : Nat} (hnf : nf ≤ 1000000) (k n : Int) (Aa Ak Al : Option Addr) (na ca ck nb cb : Nat) (ks : List Int) (w : World) (hc : w.heap[cb_]? = some (.cells #[.int .i64 (nf : Int), .map (some mb)] 71 (0, 0))) (hk : IntsIn w.heap.size w Ak ks) (hkc : ks.length ≤ ck) :
    Calls Try.prog 61 #[.pointer (some ⟨cb_, 0, none⟩), .agg #[.int .i64 k, .int .i64 n, .slice Aa na ca, .slice Ak ks.length ck, .slice Al nb cb]] w fun e w' => e = .returned (.bool (funsB nf ks)) ∧ Below w.heap.size w w' := by
  obtain ⟨W0, hW0⟩ : ∃ W0, w.alloc (.cells #[.int .i64 k, .int .i64 n, .slice Aa na ca, .slice Ak ks.length ck, .slice Al nb cb] 52) = W0 := ⟨_, rfl⟩
  have hb0 : Below w.heap.size w W0 := by rw [← hW0]; exact (Below.refl _ _).alloc (Nat.le_refl _) _
  have hR : RhsAt w W0 w.heap.size k n Aa Ak Al na ca ks.length ck nb cb := by rw [← hW0]; exact RhsAt.new _ _ _ _ _ _ _ _ _ _ _ _
  have c0 : w.cell? ⟨cb_, 0, none⟩ = some (.int .i64 (nf : Int)) := by simp [World.cell?, hc]
  have HR := Lib.hid (fun (V : World) (hV : Below W0.heap.size W0 V) => (show V.cell? ⟨w.heap.size, 3, none⟩ = some (.slice Ak ks.length ck) ∧ V.cell? ⟨cb_, 0, none⟩ = some (.int .i64 (nf : Int)) from ⟨(hR.behind hV).c3, cell_behind (hb0.trans (hV.mono hb0.size)) c0⟩))
  have HK := Lib.hid (fun (V : World) (hV : Below W0.heap.size W0 V) (j : Nat) (hj : j < ks.length) => (show ∃ b o, Ak = some ⟨b, o, none⟩ ∧ V.cell? ⟨b, o + j, none⟩ = some (.int .i64 (nth ks j)) from by
    obtain ⟨b, o, h1, h2, h3⟩ := hk.at_ (by omega)
    exact ⟨b, o, h1, ((hb0.trans (hV.mono hb0.size)).cell (p := ⟨_, _, none⟩) h2).trans (h3 j hj)⟩))
  have hl := groupF_len ks
  have HG := Lib.hid (groupF_get' ks)
  have h64 := hk.1
  have HB := Lib.hid hb0
  clear hk hR hb0 hc c0
  obtain ⟨out, hout⟩ : ∃ o, funsB nf ks = o := ⟨_, rfl⟩
  rw [hout]
  have HO := Lib.hid hout
  clear hout
  obtain ⟨L, hL⟩ : ∃ L, ks.length = L := ⟨_, rfl⟩
  rw [hL] at hW0 hkc HR HK hl HG h64 ⊢
  clear hL
  have HL := Lib.hid hl
  have hw1 : IntKind.i64.wrap ((nf : Int) - 1) = (nf : Int) - 1 := by rw [IntKind.wrap_i64]; omega
  go_enter Try.func61, Try.ntmps61
  go_wp2_with fail
  go_loopw [5] (fun iv wr => ∃ j : Nat, 3 * j ≤ L + 2 ∧ iv = .int .i64 (3 * (j : Int) + 1) ∧ Hid (((groupF ks).take j).all (fun f => inB f 0 ((nf : Int) - 1)) = true) ∧ Hid (Below W0.heap.size W0 wr)) (fun iv _ => 3 * L + 9 - (intOf iv).toNat)
  case atStart => exact ⟨0, by omega, rfl, Lib.hid (by simp), Lib.hid (Below.refl _ _)⟩
  case round =>
    obtain ⟨j, hj, rfl, HA, HW⟩ := hrel
    obtain ⟨q3, qc⟩ := HR.out wr HW.out
    by_cases hlt : 3 * j + 1 < L
    · obtain ⟨b, o, rfl, qk⟩ := HK.out wr HW.out (3 * j + 1) hlt
      have e1 : (0 : Int) ≤ 3 * (j : Int) + 1 := by omega
      have e2 : 3 * (j : Int) + 1 < (L : Int) := by omega
      have e3 : (3 * (j : Int) + 1).toNat = 3 * j + 1 := by omega
      have e4 : IntKind.i64.wrap (3 * (j : Int) + 1 + 3) = 3 * (j : Int) + 1 + 3 := by rw [IntKind.wrap_i64]; omega
      have e5 : (L : Int) ≤ (ck : Int) := by omega
      have HGJ := Lib.hid (HG.out j hlt)
      cases hin : inB (nth ks (3 * j + 1)) 0 ((nf : Int) - 1)
      · have HF := Lib.hid (show out = false from HO.out.symm.trans (all_false HGJ.out hin))
        go_wp2_with fail
        go_quiet ((go_at_call 43; exact Calls.quiet_of_same (within_q _ _ _ _)))
        go_wp2_with fail
        go_ret
        exact ⟨ret_bool HF.out.symm, HB.out.trans ((below_drewN HW.out _).mono HB.out.size)⟩
      · have HA2 := Lib.hid (all_take_succ HGJ.out HA.out hin)
        go_wp2_with fail
        go_quiet ((go_at_call 43; exact Calls.quiet_of_same (within_q _ _ _ _)))
        go_wp2_with fail
        go_roundw
        case rel => exact ⟨j + 1, by omega, by go_num, HA2, Lib.hid (below_drewN HW.out _)⟩
        case measure => simp [intOf]; omega
    · have e2 : ¬ 3 * (j : Int) + 1 < (L : Int) := by omega
      have HE := Lib.hid (show out = true from HO.out.symm.trans (by
        have := HA.out
        rwa [List.take_of_length_le (by rw [HL.out]; omega)] at this))
      go_wp2_with fail
      go_ret
      exact ⟨ret_bool HE.out.symm, HB.out.trans (HW.out.mono HB.out.size)⟩
end Go.Proofs.Ytnobggabjpcbfaa

/-
  clos: rising, count.
-/
set_option linter.unusedVariables false
set_option linter.unusedSimpArgs false
namespace Go.Proofs.Ytnobggabjpcbfaa
open Go.RowKit

set_option maxRecDepth 100000 in
set_option maxHeartbeats 1000000 in
theorem rising_any (Ak : Option Addr) (ck : Nat) (ks : List Int) (w : World) (hk : IntsIn w.heap.size w Ak ks) (hkc : ks.length ≤ ck) :
    Calls Try.prog 62 #[.slice Ak ks.length ck] w fun e w' => e = .returned (.bool (risingB ks)) ∧ w = w' := by
  have HK := Lib.hid (fun (j : Nat) (hj : j < ks.length) => (show ∃ b o, Ak = some ⟨b, o, none⟩ ∧ w.cell? ⟨b, o + j, none⟩ = some (.int .i64 (nth ks j)) ∧ (∀ i, i < ks.length → w.cell? ⟨b, o + i, none⟩ = some (.int .i64 (nth ks i))) from by
    obtain ⟨b, o, h1, h2, h3⟩ := hk.at_ (by omega)
    exact ⟨b, o, h1, h3 j hj, h3⟩))
  have h64 := hk.1
  clear hk
  obtain ⟨out, hout⟩ : ∃ o, risingB ks = o := ⟨_, rfl⟩
  rw [hout]
  have HO := Lib.hid hout
  clear hout
  obtain ⟨L, hL⟩ : ∃ L, ks.length = L := ⟨_, rfl⟩
  have HL := Lib.hid hL
  rw [hL] at hkc HK h64 ⊢
  clear hL
  go_enter Try.func62, Try.ntmps62
  go_wp2_with fail
  go_loopw [7] (fun iv wr => ∃ j : Nat, j ≤ L ∧ iv = .int .i64 (j : Int) ∧ w = wr ∧ Hid (∀ i, i < j → riseOk ks i = true)) (fun iv _ => L + 1 - (intOf iv).toNat)
  case atStart => exact ⟨0, by omega, rfl, rfl, Lib.hid (fun i hi => by omega)⟩
  case round =>
    obtain ⟨j, hj, rfl, rfl, HA⟩ := hrel
    by_cases hlt : j < L
    · obtain ⟨b, o, rfl, qk, hall⟩ := HK.out j hlt
      have HALL := Lib.hid hall
      clear hall
      have e1 : (0 : Int) ≤ (j : Int) := by omega
      have e2 : (j : Int) < (L : Int) := by omega
      have e4 : IntKind.i64.wrap ((j : Int) + 1) = (j : Int) + 1 := by rw [IntKind.wrap_i64]; omega
      have e5 : (L : Int) ≤ (ck : Int) := by omega
      cases hin : inB (nth ks j) (-1073741824) 1073741823
      · have HF := Lib.hid (show out = false from HO.out.symm.trans (risingB_false (i := j) (by rw [HL.out]; exact hlt) (by unfold riseOk; rw [hin]; rfl)))
        go_wp2_with (go_at_call 43; refine (within_any _ _ _ _).mono ?_; rintro en w' ⟨rfl, rfl⟩)
        go_ret
        exact ⟨ret_bool HF.out.symm, rfl⟩
      · by_cases h0 : j = 0
        · have HA2 := Lib.hid (show ∀ i, i < j + 1 → riseOk ks i = true from fun i hi => by
            have hi0 : i = 0 := by omega
            rw [h0] at hin
            rw [hi0]
            unfold riseOk; rw [hin]; rfl)
          have e6 : ¬ (0 : Int) < (j : Int) := by omega
          have H0 := Lib.hid h0
          clear h0
          go_wp2_with (go_at_call 43; refine (within_any _ _ _ _).mono ?_; rintro en w' ⟨rfl, rfl⟩)
          go_roundw
          case rel => exact ⟨j + 1, by omega, by go_num, (by first | rfl | trivial), HA2⟩
          case measure => simp [intOf]; omega
        · obtain ⟨q, rfl⟩ : ∃ q, j = q + 1 := ⟨j - 1, by omega⟩
          have qq := HALL.out q (by omega)
          have e6 : (0 : Int) < ((q + 1 : Nat) : Int) := by omega
          have e7 : IntKind.i64.wrap (((q + 1 : Nat) : Int) - 1) = (q : Int) := by rw [IntKind.wrap_i64]; omega
          have e8 : (0 : Int) ≤ (q : Int) := by omega
          have e9 : (q : Int) < (L : Int) := by omega
          by_cases hge : nth ks (q + 1) ≤ nth ks q
          · have HF := Lib.hid (show out = false from HO.out.symm.trans (risingB_false (i := q + 1) (by rw [HL.out]; exact hlt) (by
              unfold riseOk; rw [hin]; simp; omega)))
            obtain ⟨J, hJ⟩ : ∃ J : Int, ((q + 1 : Nat) : Int) = J := ⟨_, rfl⟩
            have hJn : J.toNat = q + 1 := by omega
            rw [hJ] at e1 e2 e4 e6 e7 ⊢
            have qk' : w.cell? ⟨b, o + J.toNat, none⟩ = some (.int .i64 (nth ks (q + 1))) := by rw [hJn]; exact qk
            clear hJ
            go_wp2_with (go_at_call 43; refine (within_any _ _ _ _).mono ?_; rintro en w' ⟨rfl, rfl⟩)
            go_ret
            exact ⟨ret_bool HF.out.symm, rfl⟩
          · have HA2 := Lib.hid (show ∀ i, i < q + 1 + 1 → riseOk ks i = true from fun i hi => by
              by_cases hij : i = q + 1
              · subst hij
                unfold riseOk; rw [hin]; simp; omega
              · exact HA.out i (by omega))
            obtain ⟨J, hJ⟩ : ∃ J : Int, ((q + 1 : Nat) : Int) = J := ⟨_, rfl⟩
            have hJn : J.toNat = q + 1 := by omega
            rw [hJ] at e1 e2 e4 e6 e7 ⊢
            have qk' : w.cell? ⟨b, o + J.toNat, none⟩ = some (.int .i64 (nth ks (q + 1))) := by rw [hJn]; exact qk
            have HJ := Lib.hid hJ
            clear hJ
            go_wp2_with (go_at_call 43; refine (within_any _ _ _ _).mono ?_; rintro en w' ⟨rfl, rfl⟩)
            go_roundw
            case rel => exact ⟨q + 1 + 1, by omega, by rw [← HJ.out]; go_num, (by first | rfl | trivial), HA2⟩
            case measure => have := HJ.out; simp [intOf]; omega
    · have e2 : ¬ (j : Int) < (L : Int) := by omega
      have HE := Lib.hid (show out = true from HO.out.symm.trans (risingB_true (fun i hi => HA.out i (by rw [HL.out] at hi; omega))))
      go_wp2_with fail
      go_ret
      exact ⟨ret_bool HE.out.symm, rfl⟩
end Go.Proofs.Ytnobggabjpcbfaa
