/-
 9 texts of this seat in one: A E0 K0 K1 K6 K7 K8 K9 K4.
-/
import Derived.WalkKit
import Derived.WalkLawsBesides
import Derived.WalkSpells
import Derived.Lib.Hide
import Derived.Deep.QuietTactic
import Derived.BigQuiet
import Derived.Test.YtnobggabjpcbfaaGreatProg
set_option maxRecDepth 100000
set_option maxHeartbeats 16000000
set_option linter.unusedVariables false
set_option linter.unusedSimpArgs false
namespace Go.Proofs.YtnobggabjpcbfaaGreat
open Go.RowKit
theorem ret_int {k : IntKind} {a b : Int} (h : a = b) : Ending.returned (.int k a) = .returned (.int k b) := by rw [h]
theorem ret_bool {a b : Bool} (h : a = b) : Ending.returned (.bool a) = .returned (.bool b) := by rw [h]
theorem below_drewN {B : Nat} {a w : World} (h : Below B a w) (n : Nat) : Below B a (w.drewN n) := ⟨h.os, h.tape, h.output, h.size, h.block⟩
theorem below_alloc {w W : World} (h : Below w.heap.size w W) (o : Obj) : Below w.heap.size w (W.alloc o) := h.alloc h.size o
def nth (l : List Int) (i : Nat) : Int := l[i]?.getD 0
theorem nth_eq (l : List Int) {i : Nat} (h : i < l.length) : nth l i = l[i] := by simp [nth, h]
theorem nth_mem (l : List Int) {i : Nat} (h : i < l.length) : nth l i ∈ l := by rw [nth_eq l h]; exact List.getElem_mem h
theorem nth_take (l : List Int) {i n : Nat} (h : i < n) : nth (l.take n) i = nth l i := by simp [nth, List.getElem?_take, h]
theorem take_snoc (l : List Int) {k : Nat} (h : k < l.length) : l.take (k + 1) = l.take k ++ [nth l k] := by
 rw [List.take_add_one, List.getElem?_eq_getElem h, nth_eq l h]; rfl
def IntsIn (B : Nat) (w : World) (A : Option Addr) (ks : List Int) : Prop :=
 ks.length * 8 ≤ 140737488351232 ∧ (ks = [] ∨ ∃ b o, A = some ⟨b, o, none⟩ ∧ b < B ∧ ∀ j, j < ks.length → w.cell? ⟨b, o + j, none⟩ = some (.int .i64 (nth ks j)))
theorem IntsIn.below {B : Nat} {w w' : World} {A : Option Addr} {ks : List Int} (h : IntsIn B w A ks) (hb : Below B w w') : IntsIn B w' A ks := by
 refine ⟨h.1, h.2.imp id ?_⟩
 rintro ⟨b, o, rfl, hlt, hc⟩
 exact ⟨b, o, rfl, hlt, fun j hj => (hb.cell (p := ⟨b, o + j, none⟩) hlt).trans (hc j hj)⟩
theorem IntsIn.mono {B B' : Nat} {w : World} {A : Option Addr} {ks : List Int} (h : IntsIn B w A ks) (hB : B ≤ B') : IntsIn B' w A ks := by
 refine ⟨h.1, h.2.imp id ?_⟩
 rintro ⟨b, o, rfl, hlt, hc⟩
 exact ⟨b, o, rfl, by omega, hc⟩
theorem IntsIn.take {B : Nat} {w : World} {A : Option Addr} {ks : List Int} (h : IntsIn B w A ks) (n : Nat) : IntsIn B w A (ks.take n) := by
 have hl : (ks.take n).length ≤ ks.length := by simp; omega
 refine ⟨by have := h.1; omega, ?_⟩
 rcases h.2 with rfl | ⟨b, o, rfl, hlt, hc⟩
 · left; simp
 · right
   refine ⟨b, o, rfl, hlt, fun j hj => ?_⟩
   rw [hc j (by omega), nth_take]
   simp at hj; omega
theorem IntsIn.at_ {B : Nat} {w : World} {A : Option Addr} {ks : List Int} (h : IntsIn B w A ks) (hn : 0 < ks.length) :
 ∃ b o, A = some ⟨b, o, none⟩ ∧ b < B ∧ ∀ j, j < ks.length → w.cell? ⟨b, o + j, none⟩ = some (.int .i64 (nth ks j)) := by
 rcases h.2 with rfl | h
 · simp at hn
 · exact h
def wrap31 (n : Int) : Int := (n + 1073741824) % 2147483648 - 1073741824
theorem wrap31_eq (n : Int) : wrap64 (wrap32 (n % 4294967296 * 2 % 4294967296) / 2) = wrap31 n := by
 unfold wrap64 wrap32 wrap31; omega
end Go.Proofs.YtnobggabjpcbfaaGreat
namespace Go.Proofs.YtnobggabjpcbfaaGreat
inductive PV where
 | int (n : Int)
 | blk (tag : Int) (kids : List PV)
 | fn (i : Nat)
 | ref (i : Nat)
instance : Inhabited PV := ⟨.int 0⟩
abbrev PEnv := List (Int × PV)
inductive Res where
 | val (v : PV)
 | raised (v : PV)
 | stuck
 | cut
def keyOf : PV → Option Int
 | .int n => some n
 | .blk t _ => some t
 | _ => none
def numOf : PV → Option Int
 | .int n => some n
 | _ => none
def lookup (e : PEnv) (x : Int) : Option PV := (e.find? (fun p => p.1 == x)).map (·.2)
def whichAt (keys : List Int) (key : Int) : Nat := match keys.findIdx? (· == key) with | some i => i + 1 | none => 0
def doP (p a b : Int) : Option Int :=
 let a := wrap31 a
 let b := wrap31 b
 if (p = 4 ∨ p = 5) ∧ b = 0 then none
 else some (wrap31 (if p = 1 then a + b else if p = 2 then a - b else if p = 3 then a * b else if p = 4 then a.tdiv b else if p = 5 then a.tmod b
  else if p = 6 then (if a = b then 1 else 0) else if p = 7 then (if a ≠ b then 1 else 0) else if p = 8 then (if a < b then 1 else 0) else (if a ≤ b then 1 else 0)))
structure PEnd where
 kind : Int
 n : Int
 out : List Int
 steps : Nat
def fuelOf (f : Int) : Nat := (min (max f 0) 1000000).toNat
end Go.Proofs.YtnobggabjpcbfaaGreat
namespace Go.Proofs.YtnobggabjpcbfaaGreat
open Go.RowKit
structure Atm where
 v : Bool
 n : Int
instance : Inhabited Atm := ⟨⟨false, 0⟩⟩
inductive Anf where
 | ret (a : Atm)
 | bind (x k n : Int) (ats : List Atm) (ks : List Int) (bl : List Anf) (rest : Anf)
instance : Inhabited Anf := ⟨.ret default⟩
def Anf.len : Anf → Nat
 | .ret _ => 0
 | .bind _ _ _ _ _ _ r => r.len + 1
def Anf.last : Anf → Atm
 | .ret a => a
 | .bind _ _ _ _ _ _ r => r.last
def Anf.tail : Anf → Nat → Anf
 | a, 0 => a
 | .ret a, _ => .ret a
 | .bind _ _ _ _ _ _ r, i + 1 => r.tail i
theorem Anf.tail_zero (a : Anf) : a.tail 0 = a := by cases a <;> rfl
theorem Anf.tail_bind : ∀ (a : Anf) (i : Nat), i < a.len → ∃ x k n ats ks bl, a.tail i = .bind x k n ats ks bl (a.tail (i + 1))
 | .ret a, i, h => absurd h (Nat.not_lt_zero _)
 | .bind x k n ats ks bl r, 0, _ => ⟨x, k, n, ats, ks, bl, by simp [Anf.tail, Anf.tail_zero]⟩
 | .bind x k n ats ks bl r, i + 1, h => r.tail_bind i (by simp only [Anf.len] at h; omega)
theorem Anf.tail_ret : ∀ (a : Anf) (i : Nat), a.len ≤ i → a.tail i = .ret a.last
 | .ret a, 0, _ => rfl
 | .ret a, _ + 1, _ => rfl
 | .bind .., 0, h => by simp [Anf.len] at h
 | .bind _ _ _ _ _ _ r, i + 1, h => r.tail_ret i (by simp only [Anf.len] at h; omega)
structure FFun where
 env : Int
 param : Int
 body : Anf
instance : Inhabited FFun := ⟨⟨0, 0, default⟩⟩
structure FlatP where
 funs : List FFun
 main : Anf
def AtomsIn (B : Nat) (w : World) (A : Option Addr) (ats : List Atm) : Prop :=
 ats.length * 16 ≤ 140737488351232 ∧ (ats = [] ∨ ∃ b o, A = some ⟨b, o, none⟩ ∧ b < B ∧ ∀ j, j < ats.length → w.cell? ⟨b, o + j * 2, none⟩ = some (.bool (ats[j]?.getD default).v) ∧ w.cell? ⟨b, o + j * 2 + 1, none⟩ = some (.int .i64 (ats[j]?.getD default).n))
theorem AtomsIn.below {B : Nat} {w w' : World} {A : Option Addr} {ats : List Atm} (h : AtomsIn B w A ats) (hb : Below B w w') : AtomsIn B w' A ats := by
 refine ⟨h.1, h.2.imp id ?_⟩
 rintro ⟨b, o, rfl, hlt, hc⟩
 exact ⟨b, o, rfl, hlt, fun j hj => ⟨(hb.cell (p := ⟨b, o + j * 2, none⟩) hlt).trans (hc j hj).1, (hb.cell (p := ⟨b, o + j * 2 + 1, none⟩) hlt).trans (hc j hj).2⟩⟩
theorem AtomsIn.mono {B B' : Nat} {w : World} {A : Option Addr} {ats : List Atm} (h : AtomsIn B w A ats) (hB : B ≤ B') : AtomsIn B' w A ats := by
 refine ⟨h.1, h.2.imp id ?_⟩
 rintro ⟨b, o, rfl, hlt, hc⟩
 exact ⟨b, o, rfl, by omega, hc⟩
/-! ### the evaluator -/
structure FSt where
 left : Nat
 made : List (Int × List PV)
 cells : List PV
 out : List Int
 asked : Nat
abbrev FOut := Res × FSt
def FOut.andThen (o : FOut) (f : PV → FSt → FOut) : FOut :=
 match o with
 | (.val v, s) => f v s
 | (.raised v, s) => (.raised v, s)
 | (.stuck, s) => (.stuck, s)
 | (.cut, s) => (.cut, s)
def atomP (e : PEnv) (a : Atm) : Option PV := if a.v then lookup e a.n else some (.int a.n)
def atomsP (e : PEnv) : List Atm → Option (List PV)
 | [] => some []
 | a :: ats => match atomP e a with | some v => (atomsP e ats).map (v :: ·) | none => none
section
variable (funs : List FFun) (inp : List Int) (rec : Anf → PEnv → FSt → FOut)
def callF (f a : PV) (s : FSt) : FOut :=
 match f with
 | .fn i => if s.left = 0 then (.cut, s) else
  match s.made[i]? with
  | some c => (match funs[c.1.toNat]? with | some g => rec g.body [(g.param, a), (g.env, f)] { s with left := s.left - 1 } | none => (.stuck, s))
  | none => (.stuck, s)
 | _ => (.stuck, s)
def readF (s : FSt) : FOut :=
 if s.asked < inp.length then (.val (.int (wrap31 (nth inp s.asked))), { s with asked := s.asked + 1 })
 else (.raised (.int 1), { s with asked := s.asked + 1 })
def primF (p : Int) (l : List PV) (s : FSt) : FOut :=
 let a := l[0]?.getD default
 let b := l[1]?.getD default
 if p = 10 then (.val (.ref s.cells.length), { s with cells := s.cells ++ [a] })
 else if p = 11 then (match a with | .ref i => (.val (s.cells[i]?.getD default), s) | _ => (.stuck, s))
 else if p = 12 then (match a with | .ref i => (.val (.int 0), { s with cells := s.cells.set i b }) | _ => (.stuck, s))
 else if p = 13 then (match a with | .int n => (.val (.int 0), { s with out := s.out ++ [n] }) | _ => (.stuck, s))
 else if p = 14 then readF inp s
 else if p = 15 then (match keyOf a with | some _ => (.raised a, s) | none => (.stuck, s))
 else if p = 16 then (match callF funs rec a (.int 0) s with | (.raised v, s') => callF funs rec b v s' | o => o)
 else match a, b with
  | .int x, .int y => (match doP p x y with | some n => (.val (.int n), s) | none => (.raised (.int 0), s))
  | _, _ => (.stuck, s)
def fieldF (v : PV) (n : Int) (s : FSt) : FOut :=
 match v with
 | .blk _ l => if 0 ≤ n ∧ n < l.length then (.val (l[n.toNat]?.getD default), s) else (.stuck, s)
 | .fn i => if 1 ≤ n ∧ n ≤ (s.made[i]?.getD default).2.length then (.val ((s.made[i]?.getD default).2[(n - 1).toNat]?.getD default), s) else (.stuck, s)
 | _ => (.stuck, s)
def rhsF (k n : Int) (l : List PV) (ks : List Int) (bl : List Anf) (e : PEnv) (s : FSt) : FOut :=
 if k = 1 then (.val (l[0]?.getD default), s)
 else if k = 3 then (.val (.blk n l), s)
 else if k = 9 then (.val (.fn s.made.length), { s with made := s.made ++ [(n, l)] })
 else if k = 4 then fieldF (l[0]?.getD default) n s
 else if k = 6 then callF funs rec (l[0]?.getD default) (l[1]?.getD default) s
 else if k = 8 then (match keyOf (l[0]?.getD default) with | some key => rec (bl[whichAt ks key]?.getD default) e s | none => (.stuck, s))
 else primF funs inp rec n l s
def groupEnv : List Int → Nat → PEnv → PEnv
 | x :: _ :: _ :: ks, i, e => groupEnv ks (i + 1) ((x, .fn i) :: e)
 | _, _, e => e
def groupMade : List Int → List PV → List (Int × List PV)
 | _ :: f :: h :: ks, l => (f, l.take h.toNat) :: groupMade ks (l.drop h.toNat)
 | _, _ => []
def bindF (x k n : Int) (ats : List Atm) (ks : List Int) (bl : List Anf) (rest : Anf) (e : PEnv) (s : FSt) : FOut :=
 if k = 10 then
  let e' := groupEnv ks s.made.length e
  match atomsP e' ats with
  | some l => rec rest e' { s with made := s.made ++ groupMade ks l }
  | none => (.stuck, s)
 else match atomsP e ats with
  | some l => FOut.andThen (rhsF funs inp rec k n l ks bl e s) fun v s => rec rest ((x, v) :: e) s
  | none => (.stuck, s)
end
def evF (funs : List FFun) (inp : List Int) : Nat → Anf → PEnv → FSt → FOut
 | 0, _, _, s => (.cut, s)
 | _ + 1, .ret a, e, s => (match atomP e a with | some v => (.val v, s) | none => (.stuck, s))
 | m + 1, .bind x k n ats ks bl rest, e, s => if s.left = 0 then (.cut, s) else bindF funs inp (evF funs inp m) x k n ats ks bl rest e { s with left := s.left - 1 }
def endF (fuel : Nat) : FOut → PEnd
 | (.val _, s) => ⟨1, 0, s.out, fuel - s.left⟩
 | (.raised v, s) => if 0 ≤ (keyOf v).getD 0 then ⟨2, (keyOf v).getD 0, s.out, fuel - s.left⟩ else ⟨4, 0, s.out, fuel - s.left⟩
 | (.stuck, s) => ⟨4, 0, s.out, fuel - s.left⟩
 | (.cut, s) => ⟨3, 0, s.out, fuel - s.left⟩
def initF (fuel : Nat) : FSt := ⟨fuel, [], [], [], 0⟩
def runF (p : FlatP) (inp : List Int) (f : Int) : FOut := evF p.funs (inp.take 4096) (fuelOf f + 1) p.main [] (initF (fuelOf f))
end Go.Proofs.YtnobggabjpcbfaaGreat
namespace Go.Proofs.YtnobggabjpcbfaaGreat
structure LeF (s s' : FSt) (k : Nat := 0) : Prop where
 left : s'.left ≤ s.left
 out : s'.out.length + s'.left ≤ s.out.length + s.left + k
 pre : s.out <+: s'.out
 asked : s.asked ≤ s'.asked
theorem LeF.refl (s : FSt) (k : Nat) : LeF s s k := ⟨Nat.le_refl _, by omega, List.prefix_refl _, Nat.le_refl _⟩
theorem LeF.trans {a b c : FSt} {k l : Nat} (h : LeF a b k) (h' : LeF b c l) : LeF a c (k + l) := ⟨Nat.le_trans h'.left h.left, by have := h.out; have := h'.out; omega, h.pre.trans h'.pre, Nat.le_trans h.asked h'.asked⟩
theorem LeF.mono {a b : FSt} {k l : Nat} (h : LeF a b k) (hkl : k ≤ l) : LeF a b l := ⟨h.left, by have := h.out; omega, h.pre, h.asked⟩
theorem andThenF_le {s : FSt} {o : FOut} {f : PV → FSt → FOut} {k l : Nat} (h : LeF s o.2 l) (hf : ∀ v s', LeF s' (f v s').2 k) : LeF s (FOut.andThen o f).2 (l + k) := by
 obtain ⟨r, s'⟩ := o
 cases r
 · exact h.trans (hf _ _)
 all_goals exact h.mono (by omega)
section
variable {funs : List FFun} {inp : List Int} {rec : Anf → PEnv → FSt → FOut} (hrec : ∀ t e s, LeF s (rec t e s).2)
include hrec
theorem callF_le (f a : PV) (s : FSt) : LeF s (callF funs rec f a s).2 := by
 unfold callF
 split
 · split
   · exact LeF.refl _ _
   · split
     · split
       · have h := hrec (‹FFun›).body [((‹FFun›).param, a), ((‹FFun›).env, .fn ‹Nat›)] { s with left := s.left - 1 }
         exact ⟨Nat.le_trans h.left (by simp), by have := h.out; simp at this ⊢; omega, h.pre, h.asked⟩
       · exact LeF.refl _ _
     · exact LeF.refl _ _
 · exact LeF.refl _ _
theorem primF_le (p : Int) (l : List PV) (s : FSt) : LeF s (primF funs inp rec p l s).2 1 := by
 unfold primF
 simp only []
 split
 · exact ⟨Nat.le_refl _, Nat.le_add_right _ _, List.prefix_refl _, Nat.le_refl _⟩
 split
 · split <;> exact LeF.refl _ _
 split
 · split
   · exact ⟨Nat.le_refl _, Nat.le_add_right _ _, List.prefix_refl _, Nat.le_refl _⟩
   · exact LeF.refl _ _
 split
 · split
   · exact ⟨Nat.le_refl _, by simp; omega, List.prefix_append _ _, Nat.le_refl _⟩
   · exact LeF.refl _ _
 split
 · unfold readF
   split <;> exact ⟨Nat.le_refl _, Nat.le_add_right _ _, List.prefix_refl _, Nat.le_succ _⟩
 split
 · split <;> exact LeF.refl _ _
 split
 · have h := callF_le (funs := funs) hrec (l[0]?.getD default) (.int 0) s
   split
   · rename_i v s' heq
     rw [heq] at h
     exact (h.trans (callF_le hrec _ _ _)).mono (by omega)
   · exact h.mono (by omega)
 split
 · split <;> exact LeF.refl _ _
 · exact LeF.refl _ _
omit hrec in
theorem fieldF_same (v : PV) (n : Int) (s : FSt) : (fieldF v n s).2 = s := by
 unfold fieldF
 split
 · split <;> rfl
 · split <;> rfl
 · rfl
theorem rhsF_le (k n : Int) (l : List PV) (ks : List Int) (bl : List Anf) (e : PEnv) (s : FSt) : LeF s (rhsF funs inp rec k n l ks bl e s).2 1 := by
 unfold rhsF
 split
 · exact LeF.refl _ _
 split
 · exact LeF.refl _ _
 split
 · exact ⟨Nat.le_refl _, Nat.le_add_right _ _, List.prefix_refl _, Nat.le_refl _⟩
 split
 · rw [fieldF_same]; exact LeF.refl _ _
 split
 · exact (callF_le hrec _ _ _).mono (by omega)
 split
 · split
   · exact (hrec _ _ _).mono (by omega)
   · exact LeF.refl _ _
 · exact primF_le hrec _ _ _
theorem bindF_le (x k n : Int) (ats : List Atm) (ks : List Int) (bl : List Anf) (rest : Anf) (e : PEnv) (s : FSt) : LeF s (bindF funs inp rec x k n ats ks bl rest e s).2 1 := by
 unfold bindF
 split
 · simp only []
   split
   · rename_i l _
     have h := hrec rest (groupEnv ks s.made.length e) { s with made := s.made ++ groupMade ks l }
     exact ⟨h.left, by have := h.out; simp at this ⊢; omega, h.pre, h.asked⟩
   · exact LeF.refl _ _
 · split
   · exact andThenF_le (l := 1) (k := 0) (rhsF_le hrec _ _ _ _ _ _ _) (fun v s' => hrec _ _ _)
   · exact LeF.refl _ _
end
theorem evF_le (funs : List FFun) (inp : List Int) : ∀ (n : Nat) (t : Anf) (e : PEnv) (s : FSt), LeF s (evF funs inp n t e s).2
 | 0, _, _, s => LeF.refl _ _
 | n + 1, .ret a, e, s => by
  unfold evF
  split <;> exact LeF.refl _ _
 | m + 1, .bind x k n ats ks bl rest, e, s => by
  unfold evF
  split
  · exact LeF.refl _ _
  · have h := bindF_le (funs := funs) (inp := inp) (evF_le funs inp m) x k n ats ks bl rest e { s with left := s.left - 1 }
    exact ⟨Nat.le_trans h.left (by simp), by have := h.out; simp at this ⊢; omega, h.pre, h.asked⟩
end Go.Proofs.YtnobggabjpcbfaaGreat
namespace Go.Proofs.YtnobggabjpcbfaaGreat
open Go.RowKit
inductive AnfAt (B : Nat) (w : World) : Nat → Nat → Nat → Anf → Prop
 | ret (b o i : Nat) (a : Atm) : AnfAt B w b o i (.ret a)
 | bind {b o i : Nat} {x k n : Int} {ats : List Atm} {ks : List Int} {bl : List Anf} {rest : Anf} {Aa Ak Al : Option Addr} {ca ck cl bb oo : Nat} {AB : Nat → Option Addr} {CB BB OO : Nat → Nat} (hb : b < B)
  (c0 : w.cell? ⟨b, o + i * 6, none⟩ = some (.int .i64 x)) (c1 : w.cell? ⟨b, o + i * 6 + 1, none⟩ = some (.int .i64 k)) (c2 : w.cell? ⟨b, o + i * 6 + 2, none⟩ = some (.int .i64 n))
  (c3 : w.cell? ⟨b, o + i * 6 + 3, none⟩ = some (.slice Aa ats.length ca)) (c4 : w.cell? ⟨b, o + i * 6 + 4, none⟩ = some (.slice Ak ks.length ck)) (c5 : w.cell? ⟨b, o + i * 6 + 5, none⟩ = some (.slice Al bl.length cl))
  (ha : AtomsIn B w Aa ats) (hac : ats.length ≤ ca) (hk : IntsIn B w Ak ks) (hkc : ks.length ≤ ck) (hlc : bl.length ≤ cl) (hl8 : bl.length * 40 ≤ 140737488351232) (hA : 0 < bl.length → Al = some ⟨bb, oo, none⟩ ∧ bb < B)
  (d0 : ∀ j (h : j < bl.length), w.cell? ⟨bb, oo + j * 3, none⟩ = some (.slice (AB j) bl[j].len (CB j))) (d1 : ∀ j (h : j < bl.length), w.cell? ⟨bb, oo + j * 3 + 1, none⟩ = some (.bool bl[j].last.v)) (d2 : ∀ j (h : j < bl.length), w.cell? ⟨bb, oo + j * 3 + 2, none⟩ = some (.int .i64 bl[j].last.n))
  (hs : ∀ j (h : j < bl.length), bl[j].len ≤ CB j ∧ bl[j].len * 96 ≤ 140737488351232 ∧ (0 < bl[j].len → AB j = some ⟨BB j, OO j, none⟩)) (hsub : ∀ j (h : j < bl.length), AnfAt B w (BB j) (OO j) 0 bl[j])
  (hr : AnfAt B w b o (i + 1) rest) : AnfAt B w b o i (.bind x k n ats ks bl rest)
theorem AnfAt.kept {B : Nat} {w w' : World} (hb : Below B w w') {b o i : Nat} {t : Anf} (h : AnfAt B w b o i t) : AnfAt B w' b o i t := by
 induction h with
 | ret b o i a => exact .ret b o i a
 | bind hlt c0 c1 c2 c3 c4 c5 ha hac hk hkc hlc hl8 hA d0 d1 d2 hs hsub hr ih1 ih2 =>
  refine .bind hlt ((hb.cell (p := ⟨_, _, none⟩) hlt).trans c0) ((hb.cell (p := ⟨_, _, none⟩) hlt).trans c1) ((hb.cell (p := ⟨_, _, none⟩) hlt).trans c2) ((hb.cell (p := ⟨_, _, none⟩) hlt).trans c3) ((hb.cell (p := ⟨_, _, none⟩) hlt).trans c4) ((hb.cell (p := ⟨_, _, none⟩) hlt).trans c5)
   (ha.below hb) hac (hk.below hb) hkc hlc hl8 hA ?_ ?_ ?_ hs ih1 ih2
  · exact fun j hj => (hb.cell (p := ⟨_, _, none⟩) (hA (by omega)).2).trans (d0 j hj)
  · exact fun j hj => (hb.cell (p := ⟨_, _, none⟩) (hA (by omega)).2).trans (d1 j hj)
  · exact fun j hj => (hb.cell (p := ⟨_, _, none⟩) (hA (by omega)).2).trans (d2 j hj)
theorem AnfAt.mono {B B' : Nat} (hB : B ≤ B') {w : World} {b o i : Nat} {t : Anf} (h : AnfAt B w b o i t) : AnfAt B' w b o i t := by
 induction h with
 | ret b o i a => exact .ret b o i a
 | bind hlt c0 c1 c2 c3 c4 c5 ha hac hk hkc hlc hl8 hA d0 d1 d2 hs hsub hr ih1 ih2 =>
  exact .bind (Nat.lt_of_lt_of_le hlt hB) c0 c1 c2 c3 c4 c5 (ha.mono hB) hac (hk.mono hB) hkc hlc hl8 (fun h => ⟨(hA h).1, Nat.lt_of_lt_of_le (hA h).2 hB⟩) d0 d1 d2 hs ih1 ih2
def BodyIn (B : Nat) (w : World) (t : Anf) (v : Array Value) : Prop :=
 ∃ A c b o, v = #[.slice A t.len c, .bool t.last.v, .int .i64 t.last.n] ∧ t.len ≤ c ∧ t.len * 96 ≤ 140737488351232 ∧ (0 < t.len → A = some ⟨b, o, none⟩) ∧ AnfAt B w b o 0 t
theorem BodyIn.kept {B : Nat} {w w' : World} (hb : Below B w w') {t : Anf} {v : Array Value} (h : BodyIn B w t v) : BodyIn B w' t v := by
 obtain ⟨A, c, b, o, h1, h2, h3, h4, h5⟩ := h
 exact ⟨A, c, b, o, h1, h2, h3, h4, h5.kept hb⟩
theorem BodyIn.mono {B B' : Nat} (hB : B ≤ B') {w : World} {t : Anf} {v : Array Value} (h : BodyIn B w t v) : BodyIn B' w t v := by
 obtain ⟨A, c, b, o, h1, h2, h3, h4, h5⟩ := h
 exact ⟨A, c, b, o, h1, h2, h3, h4, h5.mono hB⟩
theorem AnfAt.from_ {B : Nat} {w : World} {b o : Nat} : ∀ {t : Anf} {i : Nat}, AnfAt B w b o i t → ∀ j, AnfAt B w b o (i + j) (t.tail j) := by
 intro t i h j
 induction j generalizing t i with
 | zero => rw [Anf.tail_zero]; exact h
 | succ j ih =>
  cases h with
  | ret a => exact .ret _ _ _ _
  | bind hlt c0 c1 c2 c3 c4 c5 ha hac hk hkc hlc hl8 hA d0 d1 d2 hs hsub hr =>
   have := ih hr
   rw [show i + 1 + j = i + (j + 1) by omega] at this
   exact this
def FlatIn (B : Nat) (w : World) (p : FlatP) (v : Array Value) : Prop :=
 ∃ Af cf b o m0 m1 m2, v = #[.slice Af p.funs.length cf, m0, m1, m2] ∧ p.funs.length ≤ cf ∧ p.funs.length * 56 ≤ 140737488351232 ∧ BodyIn B w p.main #[m0, m1, m2] ∧ (0 < p.funs.length → Af = some ⟨b, o, none⟩ ∧ b < B) ∧
  ∀ j (h : j < p.funs.length), ∃ g0 g1 g2, w.cell? ⟨b, o + j * 5, none⟩ = some (.int .i64 p.funs[j].env) ∧ w.cell? ⟨b, o + j * 5 + 1, none⟩ = some (.int .i64 p.funs[j].param) ∧ w.cell? ⟨b, o + j * 5 + 2, none⟩ = some g0 ∧ w.cell? ⟨b, o + j * 5 + 3, none⟩ = some g1 ∧ w.cell? ⟨b, o + j * 5 + 4, none⟩ = some g2 ∧ BodyIn B w p.funs[j].body #[g0, g1, g2]
theorem FlatIn.kept {B : Nat} {w w' : World} (hb : Below B w w') {p : FlatP} {v : Array Value} (h : FlatIn B w p v) : FlatIn B w' p v := by
 obtain ⟨Af, cf, b, o, m0, m1, m2, h1, h2, h3, h4, h5, h6⟩ := h
 refine ⟨Af, cf, b, o, m0, m1, m2, h1, h2, h3, h4.kept hb, h5, fun j hj => ?_⟩
 obtain ⟨g0, g1, g2, e0, e1, e2, e3, e4, e5⟩ := h6 j hj
 have hlt := (h5 (by omega)).2
 exact ⟨g0, g1, g2, (hb.cell (p := ⟨_, _, none⟩) hlt).trans e0, (hb.cell (p := ⟨_, _, none⟩) hlt).trans e1, (hb.cell (p := ⟨_, _, none⟩) hlt).trans e2, (hb.cell (p := ⟨_, _, none⟩) hlt).trans e3, (hb.cell (p := ⟨_, _, none⟩) hlt).trans e4, e5.kept hb⟩
theorem FlatIn.mono {B B' : Nat} (hB : B ≤ B') {w : World} {p : FlatP} {v : Array Value} (h : FlatIn B w p v) : FlatIn B' w p v := by
 obtain ⟨Af, cf, b, o, m0, m1, m2, h1, h2, h3, h4, h5, h6⟩ := h
 refine ⟨Af, cf, b, o, m0, m1, m2, h1, h2, h3, h4.mono hB, fun h => ⟨(h5 h).1, Nat.lt_of_lt_of_le (h5 h).2 hB⟩, fun j hj => ?_⟩
 obtain ⟨g0, g1, g2, e0, e1, e2, e3, e4, e5⟩ := h6 j hj
 exact ⟨g0, g1, g2, e0, e1, e2, e3, e4, e5.mono hB⟩
end Go.Proofs.YtnobggabjpcbfaaGreat
namespace Go.Proofs.YtnobggabjpcbfaaGreat
mutual
def nodesA : Anf → Int → Int → Int
 | .ret _, _, n => n
 | .bind _ _ _ ats ks bl rest, most, n => if n < most then nodesA rest most (nodesLA bl most (n + (1 + ats.length + ks.length))) else n
def nodesLA : List Anf → Int → Int → Int
 | [], _, n => n
 | c :: cs, most, n => if n < most then nodesLA cs most (n + nodesA c (most - n) 1) else n
end
mutual
theorem nodesA_ge : ∀ (t : Anf) (most n : Int), n ≤ nodesA t most n
 | .ret _, _, n => by simp [nodesA]
 | .bind _ _ _ ats ks bl rest, most, n => by
  unfold nodesA
  split
  · have h1 := nodesLA_ge bl most (n + (1 + ats.length + ks.length))
    have h2 := nodesA_ge rest most (nodesLA bl most (n + (1 + ats.length + ks.length)))
    omega
  · omega
theorem nodesLA_ge : ∀ (l : List Anf) (most n : Int), n ≤ nodesLA l most n
 | [], _, n => by simp [nodesLA]
 | c :: cs, most, n => by
  unfold nodesLA
  split
  · have h1 := nodesA_ge c (most - n) 1
    have h2 := nodesLA_ge cs most (n + nodesA c (most - n) 1)
    omega
  · omega
end
mutual
def partsA : Anf → Nat
 | .ret _ => 0
 | .bind _ _ _ ats ks bl rest => 1 + ats.length + ks.length + partsLA bl + partsA rest
def partsLA : List Anf → Nat
 | [] => 0
 | c :: cs => 1 + partsA c + partsLA cs
end
mutual
theorem nodesA_all : ∀ (t : Anf) (most n : Int), nodesA t most n < most → nodesA t most n = n + partsA t
 | .ret _, most, n, _ => by simp [nodesA, partsA]
 | .bind _ _ _ ats ks bl rest, most, n, h => by
  unfold nodesA at h ⊢
  split at h
  · rename_i hn
    rw [if_pos hn]
    have h1 := nodesA_ge rest most (nodesLA bl most (n + (1 + ats.length + ks.length)))
    have h2 := nodesLA_all bl most (n + (1 + ats.length + ks.length)) (by omega)
    rw [nodesA_all rest most _ h, h2]
    simp only [partsA]
    omega
  · omega
theorem nodesLA_all : ∀ (l : List Anf) (most n : Int), nodesLA l most n < most → nodesLA l most n = n + partsLA l
 | [], most, n, _ => by simp [nodesLA, partsLA]
 | c :: cs, most, n, h => by
  unfold nodesLA at h ⊢
  split at h
  · rename_i hn
    rw [if_pos hn]
    have h1 := nodesLA_ge cs most (n + nodesA c (most - n) 1)
    have h2 := nodesA_all c (most - n) 1 (by omega)
    rw [nodesLA_all cs most _ h, h2]
    simp only [partsLA]
    omega
  · omega
end
end Go.Proofs.YtnobggabjpcbfaaGreat
namespace Go.Proofs.YtnobggabjpcbfaaGreat
open Go.RowKit
theorem nodesLA_le {M : Int} (hM : 1 ≤ M) : ∀ (l : List Anf), (∀ c ∈ l, ∀ most n : Int, nodesA c most n ≤ max n (most + M)) → ∀ most n : Int, nodesLA l most n ≤ max n (most + M)
 | [], _, most, n => by simp only [nodesLA]; omega
 | c :: cs, h, most, n => by
  unfold nodesLA
  split
  · rename_i hn
    have h1 := h c (by simp) (most - n) 1
    have h2 := nodesLA_le hM cs (fun c' hc => h c' (by simp [hc])) most (n + nodesA c (most - n) 1)
    omega
  · omega
theorem nodesA_le {B : Nat} {w : World} {b o i : Nat} {t : Anf} (h : AnfAt B w b o i t) : ∀ most n : Int, nodesA t most n ≤ max n (most + 27000000000000) := by
 induction h with
 | ret b o i a => intro most n; simp only [nodesA]; omega
 | @bind b o i x k n ats ks bl rest Aa Ak Al ca ck cl bb oo AB CB BB OO hlt c0 c1 c2 c3 c4 c5 ha hac hk hkc hlc hl8 hA d0 d1 d2 hs hsub hr ih1 ih2 =>
  intro most n
  have hal := ha.1
  have hkl := hk.1
  unfold nodesA
  split
  · rename_i hn
    have h1 := nodesLA_le (M := 27000000000000) (by decide) bl (fun c hc => by
     obtain ⟨j, hj, rfl⟩ := List.getElem_of_mem hc
     exact ih1 j hj) most (n + (1 + ats.length + ks.length))
    have h2 := ih2 most (nodesLA bl most (n + (1 + ats.length + ks.length)))
    omega
  · omega
theorem size_tail : ∀ (t : Anf) (i : Nat), SizeOf.sizeOf (t.tail i) ≤ SizeOf.sizeOf t
 | .ret a, 0 => Nat.le_refl _
 | .ret a, _ + 1 => Nat.le_refl _
 | .bind .., 0 => Nat.le_refl _
 | .bind x k n ats ks bl r, i + 1 => by
  have := size_tail r i
  simp only [Anf.tail, Anf.bind.sizeOf_spec]
  omega
theorem size_block {t : Anf} {i : Nat} {x k n : Int} {ats : List Atm} {ks : List Int} {bl : List Anf} {rest c : Anf} (h : t.tail i = .bind x k n ats ks bl rest) (hc : c ∈ bl) : SizeOf.sizeOf c < SizeOf.sizeOf t := by
 have h1 := size_tail t i
 rw [h] at h1
 have h2 := List.sizeOf_lt_of_mem hc
 simp only [Anf.bind.sizeOf_spec] at h1
 omega
theorem nodesA_step {t : Anf} {i : Nat} {x k m : Int} {ats : List Atm} {ks : List Int} {bl : List Anf} (h : t.tail i = .bind x k m ats ks bl (t.tail (i + 1))) {most n : Int} (hn : n < most) : nodesA (t.tail i) most n = nodesA (t.tail (i + 1)) most (nodesLA bl most (n + (1 + ats.length + ks.length))) := by
 rw [h, nodesA, if_pos hn]
theorem nodesA_stop {t : Anf} {most n : Int} (hn : ¬ n < most) : nodesA t most n = n := by
 cases t with
 | ret a => rfl
 | bind x k m ats ks bl rest => rw [nodesA, if_neg hn]
theorem nodesLA_step {l : List Anf} {j : Nat} (hj : j < l.length) {most n : Int} (hn : n < most) : nodesLA (l.drop j) most n = nodesLA (l.drop (j + 1)) most (n + nodesA l[j] (most - n) 1) := by
 rw [List.drop_eq_getElem_cons hj, nodesLA, if_pos hn]
theorem nodesLA_stop {l : List Anf} {most n : Int} (hn : ¬ n < most) : nodesLA l most n = n := by
 cases l with
 | nil => rfl
 | cons c cs => rw [nodesLA, if_neg hn]
end Go.Proofs.YtnobggabjpcbfaaGreat
namespace Go.Proofs.YtnobggabjpcbfaaGreat
open Go.RowKit
structure BindIn (B : Nat) (w : World) (b o : Nat) (x k n : Int) (ats : List Atm) (ks : List Int) (bl : List Anf) (Aa : Option Addr) (ca : Nat) (Ak : Option Addr) (ck : Nat) (Al : Option Addr) (cl : Nat) : Prop where
 lt : b < B
 c0 : w.cell? ⟨b, o, none⟩ = some (.int .i64 x)
 c1 : w.cell? ⟨b, o + 1, none⟩ = some (.int .i64 k)
 c2 : w.cell? ⟨b, o + 2, none⟩ = some (.int .i64 n)
 c3 : w.cell? ⟨b, o + 3, none⟩ = some (.slice Aa ats.length ca)
 c4 : w.cell? ⟨b, o + 4, none⟩ = some (.slice Ak ks.length ck)
 c5 : w.cell? ⟨b, o + 5, none⟩ = some (.slice Al bl.length cl)
 ha : AtomsIn B w Aa ats
 hac : ats.length ≤ ca
 hk : IntsIn B w Ak ks
 hkc : ks.length ≤ ck
 hlc : bl.length ≤ cl
 hl8 : bl.length * 40 ≤ 140737488351232
 blk : ∀ j (h : j < bl.length), ∃ bb oo g0 g1 g2, Al = some ⟨bb, oo, none⟩ ∧ bb < B ∧ w.cell? ⟨bb, oo + j * 3, none⟩ = some g0 ∧ w.cell? ⟨bb, oo + j * 3 + 1, none⟩ = some g1 ∧ w.cell? ⟨bb, oo + j * 3 + 2, none⟩ = some g2 ∧ BodyIn B w bl[j] #[g0, g1, g2]
theorem AnfAt.bind_ {B : Nat} {w : World} {b o i : Nat} {x k n : Int} {ats : List Atm} {ks : List Int} {bl : List Anf} {rest : Anf} (h : AnfAt B w b o i (.bind x k n ats ks bl rest)) : ∃ Aa ca Ak ck Al cl, BindIn B w b (o + i * 6) x k n ats ks bl Aa ca Ak ck Al cl := by
 cases h with
 | bind hlt c0 c1 c2 c3 c4 c5 ha hac hk hkc hlc hl8 hA d0 d1 d2 hs hsub hr =>
  refine ⟨_, _, _, _, _, _, ⟨hlt, c0, c1, c2, c3, c4, c5, ha, hac, hk, hkc, hlc, hl8, fun j hj => ?_⟩⟩
  obtain ⟨h1, h2⟩ := hA (by omega)
  obtain ⟨e1, e2, e3⟩ := hs j hj
  exact ⟨_, _, _, _, _, h1, h2, d0 j hj, d1 j hj, d2 j hj, _, _, _, _, rfl, e1, e2, e3, hsub j hj⟩
theorem BodyIn.at_ {B : Nat} {w : World} {t : Anf} {v : Array Value} (h : BodyIn B w t v) : ∃ A c b o, v = #[.slice A t.len c, .bool t.last.v, .int .i64 t.last.n] ∧ t.len ≤ c ∧ t.len * 96 ≤ 140737488351232 ∧ (0 < t.len → A = some ⟨b, o, none⟩) ∧
 ∀ i, i < t.len → ∃ x k n ats ks bl Aa ca Ak ck Al cl, t.tail i = .bind x k n ats ks bl (t.tail (i + 1)) ∧ BindIn B w b (o + i * 6) x k n ats ks bl Aa ca Ak ck Al cl := by
 obtain ⟨A, c, b, o, h1, h2, h3, h4, h5⟩ := h
 refine ⟨A, c, b, o, h1, h2, h3, h4, fun i hi => ?_⟩
 obtain ⟨x, k, n, ats, ks, bl, he⟩ := t.tail_bind i hi
 have h6 := h5.from_ i
 rw [he, Nat.zero_add] at h6
 obtain ⟨Aa, ca, Ak, ck, Al, cl, h7⟩ := h6.bind_
 exact ⟨x, k, n, ats, ks, bl, Aa, ca, Ak, ck, Al, cl, he, h7⟩
end Go.Proofs.YtnobggabjpcbfaaGreat
namespace Go.Proofs.YtnobggabjpcbfaaGreat
end Go.Proofs.YtnobggabjpcbfaaGreat
