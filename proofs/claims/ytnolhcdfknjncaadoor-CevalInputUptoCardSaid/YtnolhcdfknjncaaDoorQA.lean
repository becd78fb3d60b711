/-
  6 texts of this seat in one: A R1 R2 R3 R4 R5.
-/
import Derived.WalkKit
import Derived.WalkLawsBesides
import Derived.WalkSpells
import Derived.Lib.Hide
import Derived.Deep.QuietTactic
import Derived.BigQuiet
import Derived.Test.YtnolhcdfknjncaaDoorProg
import Derived.Maps.AppendAt
import Derived.RangeFuncNested
import Derived.RangeFuncBound
import Derived.RangeFuncCalls
import Derived.RangeFuncLeaves
import Derived.Shelf.Abstract
import Derived.Shelf.RegionOpen
import Derived.OwnWalkIn
import Derived.TacticsInMore
import Derived.LoopNIn
import Derived.LoopIn
import Derived.Laws.EntriesVeiled
/-
  Words shared by all texts of this seat: lists of ints in memory, core terms in memory, small lemmas.
-/
set_option linter.unusedVariables false
set_option linter.unusedSimpArgs false
namespace Go.Proofs.YtnolhcdfknjncaaDoor
open Go.RowKit

theorem ret_int {k : IntKind} {a b : Int} (h : a = b) : Ending.returned (.int k a) = .returned (.int k b) := by rw [h]
theorem ret_bool {a b : Bool} (h : a = b) : Ending.returned (.bool a) = .returned (.bool b) := by rw [h]

/-- behind a contract: old cells and marks read as before -/
theorem bcell {W w1 : World} (hb : Below W.heap.size W w1) : (∀ b o, b < W.heap.size → w1.cell? ⟨b, o, none⟩ = W.cell? ⟨b, o, none⟩) ∧ (∀ b o, b < W.heap.size → w1.frozen? ⟨b, o, none⟩ = W.frozen? ⟨b, o, none⟩) :=
  ⟨fun b o h => hb.cell (p := ⟨b, o, none⟩) h, fun b o h => hb.frozen (p := ⟨b, o, none⟩) h⟩
theorem below_of {w w' : World} (h : Below w.heap.size w w') {B : Nat} (hB : B ≤ w.heap.size) : Below B w w' := h.mono hB
theorem below_drewN {B : Nat} {a w : World} (h : Below B a w) (n : Nat) : Below B a (w.drewN n) := ⟨h.os, h.tape, h.output, h.size, h.block⟩
theorem below_alloc {w W : World} (h : Below w.heap.size w W) (o : Obj) : Below w.heap.size w (W.alloc o) := h.alloc h.size o
theorem below_then {B : Nat} {w w1 w2 : World} (h : Below B w w1) (hB : B ≤ w1.heap.size) (k : Below w1.heap.size w1 w2) : Below B w w2 :=
  h.trans ⟨k.os, k.tape, k.output, k.size, fun i hi => k.block i (Nat.lt_of_lt_of_le hi hB)⟩

/-- the element at a place: a word that the walk does not look into -/
def nth (l : List Int) (i : Nat) : Int := l[i]?.getD 0
theorem nth_eq (l : List Int) {i : Nat} (h : i < l.length) : nth l i = l[i] := by simp [nth, h]
theorem nth_mem (l : List Int) {i : Nat} (h : i < l.length) : nth l i ∈ l := by rw [nth_eq l h]; exact List.getElem_mem h
theorem nth_take (l : List Int) {i n : Nat} (h : i < n) : nth (l.take n) i = nth l i := by simp [nth, List.getElem?_take, h]
theorem take_snoc (l : List Int) {k : Nat} (h : k < l.length) : l.take (k + 1) = l.take k ++ [nth l k] := by
  rw [List.take_add_one, List.getElem?_eq_getElem h, nth_eq l h]; rfl

/-- ints in memory, in blocks below B -/
def IntsIn (B : Nat) (w : World) (A : Option Addr) (ks : List Int) : Prop :=
  ks.length * 8 ≤ 140737488351232 ∧ (ks = [] ∨ ∃ b o, A = some ⟨b, o, none⟩ ∧ b < B ∧ ∀ j, j < ks.length → w.cell? ⟨b, o + j, none⟩ = some (.int .i64 (nth ks j)))
theorem IntsIn.below {B : Nat} {w w' : World} {A : Option Addr} {ks : List Int} (h : IntsIn B w A ks) (hb : Below B w w') : IntsIn B w' A ks := by
  refine ⟨h.1, h.2.imp id ?_⟩
  rintro ⟨b, o, rfl, hlt, hc⟩
  exact ⟨b, o, rfl, hlt, fun j hj => (hb.cell (p := ⟨b, o + j, none⟩) hlt).trans (hc j hj)⟩
theorem IntsIn.mono {B B' : Nat} {w : World} {A : Option Addr} {ks : List Int} (h : IntsIn B w A ks) (hB : B ≤ B') : IntsIn B' w A ks := by
  refine ⟨h.1, h.2.imp id ?_⟩
  rintro ⟨b, o, rfl, hlt, hc⟩
  exact ⟨b, o, rfl, by omega, hc⟩
theorem IntsIn.take {B : Nat} {w : World} {A : Option Addr} {ks : List Int} (h : IntsIn B w A ks) (n : Nat) : IntsIn B w A (ks.take n) := by
  have hl : (ks.take n).length ≤ ks.length := by simp; omega
  refine ⟨by have := h.1; omega, ?_⟩
  rcases h.2 with rfl | ⟨b, o, rfl, hlt, hc⟩
  · left; simp
  · right
    refine ⟨b, o, rfl, hlt, fun j hj => ?_⟩
    rw [hc j (by omega), nth_take]
    simp at hj; omega
/-- where there is an element there is an address -/
theorem IntsIn.at_ {B : Nat} {w : World} {A : Option Addr} {ks : List Int} (h : IntsIn B w A ks) (hn : 0 < ks.length) :
    ∃ b o, A = some ⟨b, o, none⟩ ∧ b < B ∧ ∀ j, j < ks.length → w.cell? ⟨b, o + j, none⟩ = some (.int .i64 (nth ks j)) := by
  rcases h.2 with rfl | h
  · simp at hn
  · exact h

/-- a core term -/
inductive Core where
  | mk (k n : Int) (ks : List Int) (cs : List Core)
def Core.k : Core → Int | .mk k _ _ _ => k
def Core.n : Core → Int | .mk _ n _ _ => n
def Core.ks : Core → List Int | .mk _ _ ks _ => ks
def Core.cs : Core → List Core | .mk _ _ _ cs => cs
instance : Inhabited Core := ⟨.mk 0 0 [] []⟩

/-- a core term in memory, in blocks below B: its four cells -/
inductive CoreIn (B : Nat) (w : World) : Core → Array Value → Prop
  | mk {k n : Int} {ks : List Int} {cs : List Core} {Ak : Option Addr} {ck : Nat} {Ac : Option Addr} {cc : Nat} {b o : Nat} {G0 G1 G2 G3 : Nat → Value}
      (hks : IntsIn B w Ak ks) (hck : ks.length ≤ ck) (hcc : cs.length ≤ cc) (hcl : cs.length * 64 ≤ 140737488351232)
      (hA : 0 < cs.length → Ac = some ⟨b, o, none⟩ ∧ b < B)
      (c0 : ∀ i, i < cs.length → w.cell? ⟨b, o + i * 4, none⟩ = some (G0 i)) (c1 : ∀ i, i < cs.length → w.cell? ⟨b, o + i * 4 + 1, none⟩ = some (G1 i))
      (c2 : ∀ i, i < cs.length → w.cell? ⟨b, o + i * 4 + 2, none⟩ = some (G2 i)) (c3 : ∀ i, i < cs.length → w.cell? ⟨b, o + i * 4 + 3, none⟩ = some (G3 i))
      (hsub : ∀ i (h : i < cs.length), CoreIn B w cs[i] #[G0 i, G1 i, G2 i, G3 i]) :
      CoreIn B w (.mk k n ks cs) #[.int .i64 k, .int .i64 n, .slice Ak ks.length ck, .slice Ac cs.length cc]

theorem CoreIn.kept {B : Nat} {w w' : World} (hb : Below B w w') {t : Core} {v : Array Value} (h : CoreIn B w t v) : CoreIn B w' t v := by
  induction h with
  | mk hks hck hcc hcl hA c0 c1 c2 c3 hsub ih =>
    refine .mk (hks.below hb) hck hcc hcl hA ?_ ?_ ?_ ?_ ih
    · exact fun i hi => (hb.cell (p := ⟨_, _, none⟩) (hA (by omega)).2).trans (c0 i hi)
    · exact fun i hi => (hb.cell (p := ⟨_, _, none⟩) (hA (by omega)).2).trans (c1 i hi)
    · exact fun i hi => (hb.cell (p := ⟨_, _, none⟩) (hA (by omega)).2).trans (c2 i hi)
    · exact fun i hi => (hb.cell (p := ⟨_, _, none⟩) (hA (by omega)).2).trans (c3 i hi)
theorem CoreIn.mono {B B' : Nat} (hB : B ≤ B') {w : World} {t : Core} {v : Array Value} (h : CoreIn B w t v) : CoreIn B' w t v := by
  induction h with
  | mk hks hck hcc hcl hA c0 c1 c2 c3 hsub ih =>
    exact .mk (hks.mono hB) hck hcc hcl (fun h => ⟨(hA h).1, Nat.lt_of_lt_of_le (hA h).2 hB⟩) c0 c1 c2 c3 ih

/-- a term's Kids in memory -/
structure KidsIn (B : Nat) (w : World) (Ac : Option Addr) (cs : List Core) (b o : Nat) (G0 G1 G2 G3 : Nat → Value) : Prop where
  hcl : cs.length * 64 ≤ 140737488351232
  hA : 0 < cs.length → Ac = some ⟨b, o, none⟩ ∧ b < B
  c0 : ∀ i, i < cs.length → w.cell? ⟨b, o + i * 4, none⟩ = some (G0 i)
  c1 : ∀ i, i < cs.length → w.cell? ⟨b, o + i * 4 + 1, none⟩ = some (G1 i)
  c2 : ∀ i, i < cs.length → w.cell? ⟨b, o + i * 4 + 2, none⟩ = some (G2 i)
  c3 : ∀ i, i < cs.length → w.cell? ⟨b, o + i * 4 + 3, none⟩ = some (G3 i)
  hsub : ∀ i (h : i < cs.length), CoreIn B w cs[i] #[G0 i, G1 i, G2 i, G3 i]
theorem KidsIn.below {B : Nat} {w w' : World} {Ac : Option Addr} {cs : List Core} {b o : Nat} {G0 G1 G2 G3 : Nat → Value} (hb : Below B w w') (h : KidsIn B w Ac cs b o G0 G1 G2 G3) : KidsIn B w' Ac cs b o G0 G1 G2 G3 :=
  ⟨h.hcl, h.hA, fun i hi => (hb.cell (p := ⟨_, _, none⟩) (h.hA (by omega)).2).trans (h.c0 i hi), fun i hi => (hb.cell (p := ⟨_, _, none⟩) (h.hA (by omega)).2).trans (h.c1 i hi),
    fun i hi => (hb.cell (p := ⟨_, _, none⟩) (h.hA (by omega)).2).trans (h.c2 i hi), fun i hi => (hb.cell (p := ⟨_, _, none⟩) (h.hA (by omega)).2).trans (h.c3 i hi), fun i hi => (h.hsub i hi).kept hb⟩
theorem CoreIn.open_ {B : Nat} {w : World} {t : Core} {v : Array Value} (h : CoreIn B w t v) : ∃ k n ks cs Ak ck Ac cc b o G0 G1 G2 G3, t = .mk k n ks cs ∧
    v = #[.int .i64 k, .int .i64 n, .slice Ak ks.length ck, .slice Ac cs.length cc] ∧ IntsIn B w Ak ks ∧ ks.length ≤ ck ∧ cs.length ≤ cc ∧ KidsIn B w Ac cs b o G0 G1 G2 G3 := by
  cases h with
  | mk hks hck hcc hcl hA c0 c1 c2 c3 hsub => exact ⟨_, _, _, _, _, _, _, _, _, _, _, _, _, _, rfl, rfl, hks, hck, hcc, ⟨hcl, hA, c0, c1, c2, c3, hsub⟩⟩

def wrap31 (n : Int) : Int := (n + 1073741824) % 2147483648 - 1073741824
theorem wrap31_eq (n : Int) : wrap64 (wrap32 (n % 4294967296 * 2 % 4294967296) / 2) = wrap31 n := by
  unfold wrap64 wrap32 wrap31; omega
end Go.Proofs.YtnolhcdfknjncaaDoor

/-
  What is wrong with one node of a core term: the contracts of core.within, num.Wrap, slices.Index, slices.Contains, core.evens, core.number, core.counts, core.keys, core.node.
-/
set_option linter.unusedVariables false
set_option linter.unusedSimpArgs false
namespace Go.Proofs.YtnolhcdfknjncaaDoor
open Go.RowKit

theorem within_any (n a b : Int) (w : World) :
    Calls Tryd.prog 83 #[.int .i64 n, .int .i64 a, .int .i64 b] w fun e w' => e = .returned (.bool (decide (a ≤ n) && decide (n ≤ b))) ∧ w = w' := by
  by_cases h : a ≤ n
  · go_enter Tryd.func83, Tryd.ntmps83
    go_wp2
    go_ret
    simp [h]
  · go_enter Tryd.func83, Tryd.ntmps83
    go_wp2
    go_ret
    simp [h]; omega
theorem within_q (n a b : Int) (w : World) :
    Calls Tryd.prog 83 #[.int .i64 n, .int .i64 a, .int .i64 b] w fun e w' => e = .returned (.bool (decide (a ≤ n) && decide (n ≤ b))) ∧ w' = w := (within_any n a b w).mono fun _ _ h => ⟨h.1, h.2.symm⟩

theorem wrap_any (n : Int) (w : World) :
    Calls Tryd.prog 70 #[.int .i64 n] w fun e w' => e = .returned (.int .i64 (wrap31 n)) ∧ w = w' := by
  go_enter Tryd.func70, Tryd.ntmps70
  go_wp2
  go_ret
  exact ⟨ret_int (wrap31_eq n), rfl⟩
theorem wrap_q (n : Int) (w : World) :
    Calls Tryd.prog 70 #[.int .i64 n] w fun e w' => e = .returned (.int .i64 (wrap31 n)) ∧ w' = w := (wrap_any n w).mono fun _ _ h => ⟨h.1, h.2.symm⟩

/-! ### number -/
/-- what is wrong with a node's N -/
def numE (k n : Int) : Int :=
  if k = 10 then (if 1 ≤ n ∧ n ≤ 16 then 0 else 28)
  else if (if k = 1 ∨ k = 3 ∨ k = 5 then decide (0 ≤ n ∧ n ≤ 65535) else if k = 2 then decide (wrap31 n = n) else if k = 7 then decide (0 ≤ n ∧ n ≤ 1023) else if k = 8 then decide (0 ≤ n ∧ n ≤ 7) else decide (n = 0)) = true then 0 else 2

theorem number_2 (n : Int) (ks cs : Value) (w : World) :
    Calls Tryd.prog 66 #[.agg #[.int .i64 2, .int .i64 n, ks, cs]] w fun e w' => e = .returned (.int .i64 (numE 2 n)) ∧ Below w.heap.size w w' := by
  go_enter Tryd.func66, Tryd.ntmps66
  go_wp2_with fail
  go_quiet ((go_at_call 70; exact Calls.quiet_of_same (wrap_q _ _)))
  go_wp2_with fail
  all_goals
    go_ret
    rename_i h
    exact ⟨ret_int (by simp at h; simp [numE, h]), below_drewN ((Below.refl _ _).alloc (Nat.le_refl _) _) _⟩

theorem number_not2 (k n : Int) (ks cs : Value) (w : World) (hk : k ≠ 2) :
    Calls Tryd.prog 66 #[.agg #[.int .i64 k, .int .i64 n, ks, cs]] w fun e w' => e = .returned (.int .i64 (numE k n)) ∧ Below w.heap.size w w' := by
  have hk2 : (k == 2) = false := by simpa using hk
  go_enter Tryd.func66, Tryd.ntmps66
  go_wp2_with (first | (go_at_call 83; refine (within_any _ _ _ _).mono ?_; rintro e w' ⟨rfl, rfl⟩) | (go_at_call 70; refine (wrap_any _ _).mono ?_; rintro e w' ⟨rfl, rfl⟩))
  all_goals
    go_ret
    exact ⟨ret_int (by simp_all [numE] <;> omega), ((Below.refl _ _).alloc (Nat.le_refl _) _)⟩

theorem number_any (k n : Int) (ks cs : Value) (w : World) :
    Calls Tryd.prog 66 #[.agg #[.int .i64 k, .int .i64 n, ks, cs]] w fun e w' => e = .returned (.int .i64 (numE k n)) ∧ Below w.heap.size w w' := by
  by_cases hk : k = 2
  · subst hk; exact number_2 n ks cs w
  · exact number_not2 k n ks cs w hk

/-! ### counts -/
/-- the table of Kids in memory -/
def kidsL : List Int := [0, 0, 0, 1, 2, 2, -1, -1, 1, -1, -1]
def TabIn (w : World) : Prop := ∀ i, i < 11 → w.cell? ⟨0, i, none⟩ = some (.int .i64 (kidsL[i]?.getD 0))
theorem TabIn.kept {B : Nat} (hB : 0 < B) {w w' : World} (h : TabIn w) (hb : Below B w w') : TabIn w' := fun i hi => (hb.cell (p := ⟨_, i, none⟩) hB).trans (h i hi)

def two (n : Int) : Bool := decide (n ≤ 9 ∨ n = 12 ∨ n = 16)
def cntB (k n : Int) (nk nc : Nat) : Bool :=
  if k = 6 then decide (2 ≤ nk ∧ nk % 2 = 0 ∧ nc = nk / 2 + 1)
  else if k = 9 then decide (nc = nk + 2)
  else if k = 7 then decide (nk = 0 ∧ 1 ≤ nc ∧ nc ≤ 8)
  else if k = 10 then decide (nk = 0 ∧ nc = if two n then 2 else 1)
  else decide (nk = 0 ∧ (nc : Int) = kidsL[k.toNat]?.getD 0)

theorem counts_tab (k n : Int) (Ak Ac : Option Addr) (nk ck nc cc : Nat) (w : World) (ht : TabIn w) (hg : 0 < w.heap.size) (h1 : 1 ≤ k) (h2 : k ≤ 10) (h6 : k ≠ 6) (h9 : k ≠ 9) (h7 : k ≠ 7) (h10 : k ≠ 10) :
    Calls Tryd.prog 67 #[.agg #[.int .i64 k, .int .i64 n, .slice Ak nk ck, .slice Ac nc cc]] w fun e w' => e = .returned (.bool (cntB k n nk nc)) ∧ Below w.heap.size w w' := by
  have e6 : (k == 6) = false := by simpa using h6
  have e9 : (k == 9) = false := by simpa using h9
  have e7 : (k == 7) = false := by simpa using h7
  have e10 : (k == 10) = false := by simpa using h10
  have htab := ht k.toNat (by omega)
  have hk11 : k < 11 := by omega
  have hk0 : 0 ≤ k := by omega
  by_cases hnk : nk = 0
  · subst hnk
    go_enter Tryd.func67, Tryd.ntmps67
    go_wp2_with fail
    go_quiet (fail)
    go_wp2_with fail
    go_ret
    exact ⟨ret_bool (by simp [cntB, h6, h9, h7, h10]; rw [Bool.eq_iff_iff]; simp), below_drewN ((Below.refl _ _).alloc (Nat.le_refl _) _) _⟩
  · have hnk' : ((nk : Int) == 0) = false := by simpa using hnk
    go_enter Tryd.func67, Tryd.ntmps67
    go_wp2_with fail
    go_quiet (fail)
    go_wp2_with fail
    go_ret
    exact ⟨ret_bool (by simp [cntB, h6, h9, h7, h10, hnk]), below_drewN ((Below.refl _ _).alloc (Nat.le_refl _) _) _⟩

theorem counts_rest (k n : Int) (Ak Ac : Option Addr) (nk ck nc cc : Nat) (w : World) (hn1 : nk ≤ 9000000000000000000) (hn2 : nc ≤ 9000000000000000000) (hk : k = 6 ∨ k = 9 ∨ k = 7 ∨ k = 10) :
    Calls Tryd.prog 67 #[.agg #[.int .i64 k, .int .i64 n, .slice Ak nk ck, .slice Ac nc cc]] w fun e w' => e = .returned (.bool (cntB k n nk nc)) ∧ Below w.heap.size w w' := by
  rcases hk with rfl | rfl | rfl | rfl
  all_goals
    go_enter Tryd.func67, Tryd.ntmps67
    go_wp2_with (first | (go_at_call 83; refine (within_any _ _ _ _).mono ?_; rintro e w' ⟨rfl, rfl⟩))
    all_goals
      go_ret
      refine ⟨ret_bool ?_, (Below.refl _ _).alloc (Nat.le_refl _) _⟩
      rw [Bool.eq_iff_iff]
      simp_all [cntB, two] <;> (try split) <;> omega

end Go.Proofs.YtnolhcdfknjncaaDoor

/-
  What is wrong with one node of a core term, second part: slices.Index, slices.Contains, core.evens, core.keys, core.node.
-/
set_option linter.unusedVariables false
set_option linter.unusedSimpArgs false
namespace Go.Proofs.YtnolhcdfknjncaaDoor
open Go.RowKit

def IdxSaid (v : Int) (ks : List Int) (w : World) (e : Ending) (w' : World) : Prop := ∃ r : Int, e = .returned (.int .i64 r) ∧ (0 ≤ r ↔ v ∈ ks) ∧ w = w'

theorem index_any (A : Option Addr) (c : Nat) (ks : List Int) (v : Int) (B : Nat) (w : World) (h : IntsIn B w A ks) :
    Calls Tryd.prog 91 #[.slice A ks.length c, .int .i64 v] w (IdxSaid v ks w) := by
  have hl := h.1
  go_enter Tryd.func91, Tryd.ntmps91
  go_wp2
  go_loop [8] (fun i => ∃ k : Nat, k ≤ ks.length ∧ i = .int .i64 k ∧ v ∉ ks.take k) (fun i => ks.length - (intOf i).toNat)
  case atStart => exact ⟨0, by omega, rfl, by simp⟩
  case round =>
    obtain ⟨k, hk, rfl, hn⟩ := hrel
    by_cases hlt : k < ks.length
    · obtain ⟨b, o, rfl, hb, hc⟩ := h.at_ (by omega)
      have hck := hc k hlt
      have hts := Lib.hid (take_snoc ks hlt)
      clear hc h
      by_cases hv : v = nth ks k
      · have hv' : (v == nth ks k) = true := by simpa using hv
        have hmem : v ∈ ks := by rw [hv]; exact nth_mem ks hlt
        have HV := Lib.hid hv; clear hv
        go_wp2
        go_ret
        exact ⟨_, rfl, by simp [hmem], rfl⟩
      · have hv' : (v == nth ks k) = false := by simpa using hv
        go_wp2
        go_round
        case rel => exact ⟨k + 1, by omega, by go_num, by rw [hts.out]; simp [hn, hv]⟩
        case measure => simp [intOf]; omega
    · have hnot : v ∉ ks := by rwa [List.take_of_length_le (by omega)] at hn
      go_wp2
      go_ret
      exact ⟨_, rfl, by simp [hnot], rfl⟩

theorem contains_any (A : Option Addr) (c : Nat) (ks : List Int) (v : Int) (B : Nat) (w : World) (h : IntsIn B w A ks) :
    Calls Tryd.prog 84 #[.slice A ks.length c, .int .i64 v] w fun e w' => e = .returned (.bool (decide (v ∈ ks))) ∧ w = w' := by
  go_enter Tryd.func84, Tryd.ntmps84
  go_wp2_with (go_at_call 91; refine (index_any A c ks v B _ h).mono ?_; rintro e w' ⟨r, rfl, hr, rfl⟩)
  go_ret
  exact ⟨ret_bool (by first | rfl | (rw [Bool.eq_iff_iff]; simpa using hr)), rfl⟩

/-! ### evens -/
def evensL : List Int → List Int
  | [] => []
  | [a] => [a]
  | a :: _ :: l => a :: evensL l
theorem evens_length (l : List Int) : (evensL l).length ≤ l.length := by
  induction l using evensL.induct <;> simp_all [evensL] <;> omega
theorem evens_take (l : List Int) (k : Nat) (h : 2 * k < l.length) : evensL (l.take (2 * k + 2)) = evensL (l.take (2 * k)) ++ [nth l (2 * k)] := by
  induction l using evensL.induct generalizing k with
  | case1 => simp at h
  | case2 a => have : k = 0 := by simp at h; omega
               subst this; simp [evensL, nth]
  | case3 a b l ih =>
    cases k with
    | zero => cases l <;> simp [evensL, nth]
    | succ k =>
      have e1 : 2 * (k + 1) + 2 = (2 * k + 2) + 1 + 1 := by omega
      have e2 : 2 * (k + 1) = 2 * k + 1 + 1 := by omega
      rw [e1, e2]
      have e3 : nth (a :: b :: l) (2 * k + 1 + 1) = nth l (2 * k) := by simp [nth]
      rw [e3]
      simp only [List.take_succ_cons, evensL, List.cons_append]
      rw [ih k (by simp at h; omega)]
theorem evens_take_length (l : List Int) (k : Nat) (h : 2 * k ≤ l.length + 1) : (evensL (l.take (2 * k))).length = k := by
  induction k with
  | zero => simp [evensL]
  | succ k ih =>
    have e1 : 2 * (k + 1) = 2 * k + 2 := by omega
    rw [e1, evens_take l k (by omega)]; simp; exact ih (by omega)

theorem Tryd.info3 : (Tryd.prog.info? 3).map (fun i => (i.zero, i.size, i.bytes)) = some (some (.int .i64 0), 1, 8) := by kernel_rfl

/-- a slice of new memory that reads as a list -/
def NewInts (ks : List Int) (w : World) (e : Ending) (w' : World) : Prop :=
  ∃ A c, e = .returned (.slice A ks.length c) ∧ IntsIn w'.heap.size w' A ks ∧ ks.length ≤ c ∧ Below w.heap.size w w'

/-- what a call owns reads as a list -/
theorem own_ints {w : World} {base n : Nat} {e : TypeId} {v : Value} {xs : List Int} (h : w.ownsRow base e 1 v n (xs.map (Value.int .i64))) (hb : xs.length * 8 ≤ 140737488351232) :
    ∃ A c, v = .slice A xs.length c ∧ IntsIn w.heap.size w A xs ∧ xs.length ≤ c := by
  have hl : xs.length = n := by have := h.1; simpa using this
  subst hl
  rcases h.2 with ⟨rfl, h0⟩ | ⟨g, cap, cur, rfl, _, hh, h1, _⟩
  · have hx : xs = [] := List.eq_nil_of_length_eq_zero h0
    exact ⟨none, 0, by simp [h0], ⟨hb, .inl hx⟩, by omega⟩
  · refine ⟨_, cap, rfl, ⟨hb, .inr ⟨g, 0, rfl, (Array.getElem?_eq_some_iff.1 hh).1, fun j hj => ?_⟩⟩, h1⟩
    have := World.ownsRow.cells h (g := g) rfl j (.int .i64 (nth xs j)) (by simp [List.getElem?_eq_getElem hj, nth_eq xs hj])
    have ha : (⟨g, 0, none⟩ : Addr).add j = ⟨g, 0 + j, none⟩ := by unfold Addr.add; split <;> simp_all
    rwa [ha] at this

set_option maxRecDepth 100000 in
set_option maxHeartbeats 800000 in
theorem evens_any (A : Option Addr) (c : Nat) (ks : List Int) (B : Nat) (w : World) (h : IntsIn B w A ks) (hB : B ≤ w.heap.size) :
    Calls Tryd.prog 85 #[.slice A ks.length c] w (NewInts (evensL ks) w) := by
  have hl := h.1
  obtain ⟨i0, hi, hz0, hz1, hz2⟩ := info_parts Tryd.info3
  go_enter Tryd.func85, Tryd.ntmps85
  go_wp2
  go_loopw [3, 4] (fun v i wr => ∃ k : Nat, 2 * k ≤ ks.length + 1 ∧ i = .int .i64 (2 * (k : Int)) ∧ wr.ownsRow w.heap.size 3 1 v k ((evensL (ks.take (2 * k))).map (Value.int .i64)) ∧ Below w.heap.size w wr) (fun _ i _ => ks.length + 2 - (intOf i).toNat)
  case atStart => exact ⟨0, by omega, rfl, ⟨by simp [evensL], .inl ⟨rfl, rfl⟩⟩, Below.refl _ _⟩
  case round =>
    obtain ⟨k, hk, rfl, hown, hbel⟩ := hrel
    by_cases hlt : 2 * k < ks.length
    · obtain ⟨b, o, rfl, hb, hc⟩ := (h.below (hbel.mono hB)).at_ (by omega)
      have hck := hc (2 * k) hlt
      have hev := Lib.hid (evens_take ks k hlt)
      clear hc h
      have hlt' : 2 * (k : Int) < (ks.length : Int) := by omega
      have hnat : (2 * (k : Int)).toNat = 2 * k := by omega
      have HN := Lib.hid hnat
      have hml : k + 1 ≤ maxLen := by unfold maxLen; omega
      go_wp2_with (at_builtin; refine wpList_append_own _ rfl _ _ 23 rfl w.heap.size 3 i0 (.int .i64 0) 1 8 Tryd.underlying23 hi hz0 hz1 hz2 rfl (by decide) _ _ _ rfl (hown.alloc _) ⟨wr.heap.size, 0, none⟩ 1 1 [.int .i64 (nth ks (2 * k))] rfl rfl (cell_one_new _ _ _) (by simp [Value.oneCell']) hml (by omega) (by have := hbel.size; simp; omega) ?_; intro v' w1 hown' hgrow _)
      have hb1 : Below w.heap.size w w1 := (hbel.alloc hbel.size _).grown hgrow (by have := hbel.size; simp; omega) (fun j hj => (hown.lt j hj).1)
      clear hown hgrow hck
      go_wp2
      go_roundw
      case rel => exact ⟨k + 1, by omega, by go_num, by have e : 2 * (k + 1) = 2 * k + 2 := by omega
                                                        rw [e, hev.out]; simpa using hown', hb1⟩
      case measure => simp [intOf]; omega
    · have hfull : ks.take (2 * k) = ks := List.take_of_length_le (by omega)
      have hlen : (evensL ks).length = k := by
        have := evens_take_length ks k (by omega)
        rwa [hfull] at this
      have HF := Lib.hid hfull; clear hfull
      have HL := Lib.hid hlen; clear hlen
      have hlt' : ¬ 2 * (k : Int) < (ks.length : Int) := by omega
      go_wp2
      go_ret
      rw [HF.out] at hown
      obtain ⟨A', c', rfl, hin, hc'⟩ := own_ints hown (by have := evens_length ks; omega)
      exact ⟨A', c', rfl, hin, hc', hbel⟩

end Go.Proofs.YtnolhcdfknjncaaDoor

/-
  What is wrong with one node of a core term, third part: core.keys, core.node.
-/
set_option linter.unusedVariables false
set_option linter.unusedSimpArgs false
namespace Go.Proofs.YtnolhcdfknjncaaDoor
open Go.RowKit

theorem within_true (n a b : Int) (w : World) (h : a ≤ n ∧ n ≤ b) :
    Calls Tryd.prog 83 #[.int .i64 n, .int .i64 a, .int .i64 b] w fun e w' => e = .returned (.bool true) ∧ w = w' :=
  (within_any n a b w).mono fun e w' he => ⟨by rw [he.1]; simp [h.1, h.2], he.2⟩
theorem within_false (n a b : Int) (w : World) (h : ¬ (a ≤ n ∧ n ≤ b)) :
    Calls Tryd.prog 83 #[.int .i64 n, .int .i64 a, .int .i64 b] w fun e w' => e = .returned (.bool false) ∧ w = w' :=
  (within_any n a b w).mono fun e w' he => ⟨by rw [he.1]; refine ret_bool ?_; rw [Bool.eq_false_iff]; simp; omega, he.2⟩

def NewIntsN (ks : List Int) (n : Nat) (w : World) (e : Ending) (w' : World) : Prop :=
  ∃ A c, e = .returned (.slice A (evensL (ks.take n)).length c) ∧ IntsIn w'.heap.size w' A (evensL (ks.take n)) ∧ Below w.heap.size w w'
theorem evens_at (A : Option Addr) (c : Nat) (ks : List Int) (n : Nat) (B : Nat) (w : World) (h : IntsIn B w A ks) (hB : B ≤ w.heap.size) (hn : n ≤ ks.length) :
    Calls Tryd.prog 85 #[.slice A n c] w (NewIntsN ks n w) := by
  have e : (ks.take n).length = n := by simp; omega
  have := evens_any A c (ks.take n) B w (h.take n) hB
  rw [e] at this
  exact this.mono fun e w' ⟨A', c', he, hi, _, hb⟩ => ⟨A', c', he, hi, hb⟩
theorem contains_true (A : Option Addr) (c n : Nat) (ks : List Int) (v : Int) (B : Nat) (w : World) (h : IntsIn B w A ks) (hn : n = ks.length) (hv : v ∈ ks) :
    Calls Tryd.prog 84 #[.slice A n c, .int .i64 v] w fun e w' => e = .returned (.bool true) ∧ w = w' := by
  subst hn
  exact (contains_any A c ks v B w h).mono fun e w' he => ⟨by rw [he.1]; simp [hv], he.2⟩
theorem contains_false (A : Option Addr) (c n : Nat) (ks : List Int) (v : Int) (B : Nat) (w : World) (h : IntsIn B w A ks) (hn : n = ks.length) (hv : v ∉ ks) :
    Calls Tryd.prog 84 #[.slice A n c, .int .i64 v] w fun e w' => e = .returned (.bool false) ∧ w = w' := by
  subst hn
  exact (contains_any A c ks v B w h).mono fun e w' he => ⟨by rw [he.1]; simp [hv], he.2⟩
theorem wrap_same (n : Int) (w : World) (h : wrap31 n = n) : Calls Tryd.prog 70 #[.int .i64 n] w fun e w' => e = .returned (.int .i64 n) ∧ w = w' :=
  (wrap_any n w).mono fun e w' he => ⟨by rw [he.1, h], he.2⟩

/-! ### keys -/
/-- is a key as it may not be? -/
def keyBad (k : Int) (ks : List Int) (i : Nat) : Prop :=
  (k = 6 ∧ (¬ (0 ≤ nth ks i ∧ nth ks i ≤ 65535) ∨ (i % 2 = 0 ∧ nth ks i ∈ evensL (ks.take i)))) ∨ (k = 9 ∧ (wrap31 (nth ks i) ≠ nth ks i ∨ (0 < i ∧ nth ks i ≤ nth ks (i - 1))))
instance (k : Int) (ks : List Int) (i : Nat) : Decidable (keyBad k ks i) := by unfold keyBad; infer_instance
def keysB (k : Int) (ks : List Int) : Bool := decide (∀ i, i < ks.length → ¬ keyBad k ks i)
theorem keysB_false {k : Int} {ks : List Int} {i : Nat} (h : i < ks.length) (hb : keyBad k ks i) : keysB k ks = false := by
  simp only [keysB, decide_eq_false_iff_not]; exact fun H => H i h hb
theorem keysB_true {k : Int} {ks : List Int} (h : ∀ i, i < ks.length → ¬ keyBad k ks i) : keysB k ks = true := by
  simpa only [keysB, decide_eq_true_eq] using h

theorem keyOk6 {ks : List Int} {i : Nat} (hx : 0 ≤ nth ks i ∧ nth ks i ≤ 65535) (h : ¬ (i % 2 = 0 ∧ nth ks i ∈ evensL (ks.take i))) : ¬ keyBad 6 ks i := by
  rintro (⟨_, h' | h'⟩ | ⟨h', _⟩)
  · exact h' hx
  · exact h h'
  · omega
theorem keyOk9 {ks : List Int} {i : Nat} (hx : wrap31 (nth ks i) = nth ks i) (h : ¬ (0 < i ∧ nth ks i ≤ nth ks (i - 1))) : ¬ keyBad 9 ks i := by
  rintro (⟨h', _⟩ | ⟨_, h' | h'⟩)
  · omega
  · exact h' hx
  · exact h h'
theorem keyOkN {k : Int} {ks : List Int} {i : Nat} (h6 : k ≠ 6) (h9 : k ≠ 9) : ¬ keyBad k ks i := by
  rintro (⟨h', _⟩ | ⟨h', _⟩)
  · exact h6 h'
  · exact h9 h'
theorem keys_succ {k : Int} {ks : List Int} {i : Nat} (h : ∀ j, j < i → ¬ keyBad k ks j) (hi : ¬ keyBad k ks i) : ∀ j, j < i + 1 → ¬ keyBad k ks j := fun j hj => by
  rcases Nat.lt_or_ge j i with h' | h'
  · exact h j h'
  · have : j = i := by omega
    subst this; exact hi

set_option maxRecDepth 100000 in
set_option maxHeartbeats 1600000 in
theorem keys_6 (n : Int) (A : Option Addr) (c : Nat) (ks : List Int) (cs : Value) (B : Nat) (w : World) (h : IntsIn B w A ks) (hB : B ≤ w.heap.size) (hcap : ks.length ≤ c) :
    Calls Tryd.prog 68 #[.agg #[.int .i64 6, .int .i64 n, .slice A ks.length c, cs]] w fun e w' => e = .returned (.bool (keysB 6 ks)) ∧ Below w.heap.size w w' := by
  have hl := h.1
  go_enter Tryd.func68, Tryd.ntmps68
  go_wp2_with fail
  obtain ⟨w0, hw0⟩ : ∃ w0, (w.alloc (Obj.cells #[Value.int IntKind.i64 6, Value.int IntKind.i64 n, Value.slice A ks.length c, cs] 26)) = w0 := ⟨_, rfl⟩
  have hb0 : Below w.heap.size w w0 := by rw [← hw0]; exact (Below.refl _ _).alloc (Nat.le_refl _) _
  have hs0 : w.heap.size < w0.heap.size := by rw [← hw0]; simp
  have hk0 : w0.cell? ⟨w.heap.size, 0, none⟩ = some (.int .i64 6) := by rw [← hw0, World.cell?_alloc_at _ _ _ _ rfl]; rfl
  have hk2 : w0.cell? ⟨w.heap.size, 2, none⟩ = some (.slice A ks.length c) := by rw [← hw0, World.cell?_alloc_at _ _ _ _ rfl]; rfl
  rw [hw0]
  clear hw0
  go_loopw [8] (fun i wr => ∃ k : Nat, k ≤ ks.length ∧ i = .int .i64 k ∧ (∀ j, j < k → ¬ keyBad 6 ks j) ∧ Below w0.heap.size w0 wr) (fun i _ => ks.length - (intOf i).toNat)
  case atStart => exact ⟨0, by omega, rfl, fun j hj => by omega, Below.refl _ _⟩
  case round =>
    obtain ⟨i, hi, rfl, hgood, hbel⟩ := hrel
    have H1 := Lib.hid hgood
    clear hgood
    have hc0 : wr.cell? ⟨w.heap.size, 0, none⟩ = some (.int .i64 6) := (hbel.cell (p := ⟨_, _, none⟩) hs0).trans hk0
    have hc2 : wr.cell? ⟨w.heap.size, 2, none⟩ = some (.slice A ks.length c) := (hbel.cell (p := ⟨_, _, none⟩) hs0).trans hk2
    have hin : IntsIn B wr A ks := (h.below (hb0.mono hB)).below (hbel.mono (by omega))
    have hBw : B ≤ wr.heap.size := by have := hbel.size; omega
    have hba : Below w.heap.size w wr := hb0.trans (hbel.mono (by omega))
    by_cases hlt : i < ks.length
    · obtain ⟨b, o, rfl, hb, hc⟩ := hin.at_ (by omega)
      have hck := hc i hlt
      have HC := Lib.hid hc
      clear hc
      by_cases hx : 0 ≤ nth ks i ∧ nth ks i ≤ 65535
      · by_cases h2 : i % 2 = 0
        · have e2 : ((i : Int) % 2 == 0) = true := by simp; omega
          by_cases hm : nth ks i ∈ evensL (ks.take i)
          · have hbad := Lib.hid (keysB_false (k := 6) hlt (.inl ⟨rfl, .inr ⟨h2, hm⟩⟩))
            have H2 := Lib.hid h2
            clear h2
            go_wp2_with (first | (go_at_call 83; refine (within_true _ _ _ _ hx).mono ?_; rintro e w' ⟨rfl, rfl⟩) | (go_at_call 85; refine (evens_at _ c ks i B _ hin hBw (by omega)).mono ?_; rintro e w1 ⟨A', c', rfl, hin1, hb1⟩) | (go_at_call 84; refine (contains_true _ _ _ (evensL (ks.take i)) _ _ _ hin1 rfl hm).mono ?_; rintro e w' ⟨rfl, rfl⟩))
            go_ret
            exact ⟨ret_bool hbad.out.symm, hba.trans (hb1.mono (by have := hba.size; omega))⟩
          · have hok := Lib.hid (keyOk6 hx (fun h' => hm h'.2))
            clear h2
            go_wp2_with (first | (go_at_call 83; refine (within_true _ _ _ _ hx).mono ?_; rintro e w' ⟨rfl, rfl⟩) | (go_at_call 85; refine (evens_at _ c ks i B _ hin hBw (by omega)).mono ?_; rintro e w1 ⟨A', c', rfl, hin1, hb1⟩; have hc1 : w1.cell? ⟨w.heap.size, 0, none⟩ = some (.int .i64 6) := (hb1.cell (p := ⟨_, _, none⟩) (by have := hbel.size; show w.heap.size < _; omega)).trans hc0) | (go_at_call 84; refine (contains_false _ _ _ (evensL (ks.take i)) _ _ _ hin1 rfl hm).mono ?_; rintro e w' ⟨rfl, rfl⟩))
            go_roundw
            case rel => exact ⟨i + 1, by omega, by go_num, keys_succ H1.out hok.out, hbel.trans (hb1.mono (by have := hbel.size; omega))⟩
            case measure => simp [intOf]; omega
        · have e2 : ((i : Int) % 2 == 0) = false := by simp; omega
          have hok := Lib.hid (keyOk6 hx (fun h' => h2 h'.1))
          clear h2
          go_wp2_with (first | (go_at_call 83; refine (within_true _ _ _ _ hx).mono ?_; rintro e w' ⟨rfl, rfl⟩))
          go_roundw
          case rel => exact ⟨i + 1, by omega, by go_num, keys_succ H1.out hok.out, hbel⟩
          case measure => simp [intOf]; omega
      · have hbad := Lib.hid (keysB_false (k := 6) hlt (.inl ⟨rfl, .inl hx⟩))
        go_wp2_with (first | (go_at_call 83; refine (within_false _ _ _ _ hx).mono ?_; rintro e w' ⟨rfl, rfl⟩))
        go_ret
        exact ⟨ret_bool hbad.out.symm, hba⟩
    · have hall := Lib.hid (keysB_true (k := 6) (ks := ks) (fun j hj => H1.out j (by omega)))
      go_wp2
      go_ret
      exact ⟨ret_bool hall.out.symm, hba⟩

set_option maxRecDepth 100000 in
set_option maxHeartbeats 1600000 in
theorem keys_9 (n : Int) (A : Option Addr) (c : Nat) (ks : List Int) (cs : Value) (B : Nat) (w : World) (h : IntsIn B w A ks) (hB : B ≤ w.heap.size) (hcap : ks.length ≤ c) :
    Calls Tryd.prog 68 #[.agg #[.int .i64 9, .int .i64 n, .slice A ks.length c, cs]] w fun e w' => e = .returned (.bool (keysB 9 ks)) ∧ Below w.heap.size w w' := by
  have hl := h.1
  go_enter Tryd.func68, Tryd.ntmps68
  go_wp2_with fail
  obtain ⟨w0, hw0⟩ : ∃ w0, (w.alloc (Obj.cells #[Value.int IntKind.i64 9, Value.int IntKind.i64 n, Value.slice A ks.length c, cs] 26)) = w0 := ⟨_, rfl⟩
  have hb0 : Below w.heap.size w w0 := by rw [← hw0]; exact (Below.refl _ _).alloc (Nat.le_refl _) _
  have hs0 : w.heap.size < w0.heap.size := by rw [← hw0]; simp
  have hk0 : w0.cell? ⟨w.heap.size, 0, none⟩ = some (.int .i64 9) := by rw [← hw0, World.cell?_alloc_at _ _ _ _ rfl]; rfl
  have hk2 : w0.cell? ⟨w.heap.size, 2, none⟩ = some (.slice A ks.length c) := by rw [← hw0, World.cell?_alloc_at _ _ _ _ rfl]; rfl
  rw [hw0]
  clear hw0
  go_loopw [8] (fun i wr => ∃ k : Nat, k ≤ ks.length ∧ i = .int .i64 k ∧ (∀ j, j < k → ¬ keyBad 9 ks j) ∧ Below w0.heap.size w0 wr) (fun i _ => ks.length - (intOf i).toNat)
  case atStart => exact ⟨0, by omega, rfl, fun j hj => by omega, Below.refl _ _⟩
  case round =>
    obtain ⟨i, hi, rfl, hgood, hbel⟩ := hrel
    have H1 := Lib.hid hgood
    clear hgood
    have hc0 : wr.cell? ⟨w.heap.size, 0, none⟩ = some (.int .i64 9) := (hbel.cell (p := ⟨_, _, none⟩) hs0).trans hk0
    have hc2 : wr.cell? ⟨w.heap.size, 2, none⟩ = some (.slice A ks.length c) := (hbel.cell (p := ⟨_, _, none⟩) hs0).trans hk2
    have hin : IntsIn B wr A ks := (h.below (hb0.mono hB)).below (hbel.mono (by omega))
    have hBw : B ≤ wr.heap.size := by have := hbel.size; omega
    have hba : Below w.heap.size w wr := hb0.trans (hbel.mono (by omega))
    by_cases hlt : i < ks.length
    · obtain ⟨b, o, rfl, hb, hc⟩ := hin.at_ (by omega)
      have hck := hc i hlt
      have hcp : 0 < i → wr.cell? ⟨b, o + (i - 1), none⟩ = some (.int .i64 (nth ks (i - 1))) := fun _ => hc (i - 1) (by omega)
      clear hc
      by_cases hx : wrap31 (nth ks i) = nth ks i
      · by_cases h0 : 0 < i
        · have hcq := hcp h0
          have e0 : (0 : Int) < (i : Int) := by omega
          have en : ((i : Int) - 1).toNat = i - 1 := by omega
          by_cases hm : nth ks i ≤ nth ks (i - 1)
          · have hbad := Lib.hid (keysB_false (k := 9) hlt (.inr ⟨rfl, .inr ⟨h0, hm⟩⟩))
            clear hcp
            have HX := Lib.hid hx
            clear hx
            go_wp2_with (first | (go_at_call 70; refine (wrap_same _ _ HX.out).mono ?_; rintro e w' ⟨rfl, rfl⟩))
            go_ret
            exact ⟨ret_bool hbad.out.symm, hba⟩
          · have hok := Lib.hid (keyOk9 hx (fun h' => hm h'.2))
            clear hcp
            have HX := Lib.hid hx
            clear hx
            go_wp2_with (first | (go_at_call 70; refine (wrap_same _ _ HX.out).mono ?_; rintro e w' ⟨rfl, rfl⟩))
            go_roundw
            case rel => exact ⟨i + 1, by omega, by go_num, keys_succ H1.out hok.out, hbel⟩
            case measure => simp [intOf]; omega
        · have hok := Lib.hid (keyOk9 hx (fun h' => h0 h'.1))
          have e0 : ¬ (0 : Int) < (i : Int) := by omega
          clear hcp
          have HX := Lib.hid hx
          clear hx
          go_wp2_with (first | (go_at_call 70; refine (wrap_same _ _ HX.out).mono ?_; rintro e w' ⟨rfl, rfl⟩))
          go_roundw
          case rel => exact ⟨i + 1, by omega, by go_num, keys_succ H1.out hok.out, hbel⟩
          case measure => simp [intOf]; omega
      · have hbad := Lib.hid (keysB_false (k := 9) hlt (.inr ⟨rfl, .inl hx⟩))
        have hx' : (wrap31 (nth ks i) == nth ks i) = false := by simpa using hx
        have hx'' : (wrap31 (nth ks i) != nth ks i) = true := by simpa using hx
        clear hcp
        go_wp2_with (first | (go_at_call 70; refine (wrap_any _ _).mono ?_; rintro e w' ⟨rfl, rfl⟩))
        go_ret
        exact ⟨ret_bool hbad.out.symm, hba⟩
    · have hall := Lib.hid (keysB_true (k := 9) (ks := ks) (fun j hj => H1.out j (by omega)))
      go_wp2
      go_ret
      exact ⟨ret_bool hall.out.symm, hba⟩

set_option maxRecDepth 100000 in
set_option maxHeartbeats 1600000 in
theorem keys_N (m n : Int) (A : Option Addr) (c : Nat) (ks : List Int) (cs : Value) (B : Nat) (w : World) (h : IntsIn B w A ks) (hB : B ≤ w.heap.size) (hcap : ks.length ≤ c) (h6 : m ≠ 6) (h9 : m ≠ 9) :
    Calls Tryd.prog 68 #[.agg #[.int .i64 m, .int .i64 n, .slice A ks.length c, cs]] w fun e w' => e = .returned (.bool (keysB m ks)) ∧ Below w.heap.size w w' := by
  have hl := h.1
  have e6 : (m == 6) = false := by simpa using h6
  have e9 : (m == 9) = false := by simpa using h9
  go_enter Tryd.func68, Tryd.ntmps68
  go_wp2_with fail
  obtain ⟨w0, hw0⟩ : ∃ w0, (w.alloc (Obj.cells #[Value.int IntKind.i64 m, Value.int IntKind.i64 n, Value.slice A ks.length c, cs] 26)) = w0 := ⟨_, rfl⟩
  have hb0 : Below w.heap.size w w0 := by rw [← hw0]; exact (Below.refl _ _).alloc (Nat.le_refl _) _
  have hs0 : w.heap.size < w0.heap.size := by rw [← hw0]; simp
  have hk0 : w0.cell? ⟨w.heap.size, 0, none⟩ = some (.int .i64 m) := by rw [← hw0, World.cell?_alloc_at _ _ _ _ rfl]; rfl
  have hk2 : w0.cell? ⟨w.heap.size, 2, none⟩ = some (.slice A ks.length c) := by rw [← hw0, World.cell?_alloc_at _ _ _ _ rfl]; rfl
  rw [hw0]
  clear hw0
  go_loopw [8] (fun i wr => ∃ k : Nat, k ≤ ks.length ∧ i = .int .i64 k ∧ (∀ j, j < k → ¬ keyBad m ks j) ∧ Below w0.heap.size w0 wr) (fun i _ => ks.length - (intOf i).toNat)
  case atStart => exact ⟨0, by omega, rfl, fun j hj => by omega, Below.refl _ _⟩
  case round =>
    obtain ⟨i, hi, rfl, hgood, hbel⟩ := hrel
    have H1 := Lib.hid hgood
    clear hgood
    have hc0 : wr.cell? ⟨w.heap.size, 0, none⟩ = some (.int .i64 m) := (hbel.cell (p := ⟨_, _, none⟩) hs0).trans hk0
    have hc2 : wr.cell? ⟨w.heap.size, 2, none⟩ = some (.slice A ks.length c) := (hbel.cell (p := ⟨_, _, none⟩) hs0).trans hk2
    have hin : IntsIn B wr A ks := (h.below (hb0.mono hB)).below (hbel.mono (by omega))
    have hBw : B ≤ wr.heap.size := by have := hbel.size; omega
    have hba : Below w.heap.size w wr := hb0.trans (hbel.mono (by omega))
    by_cases hlt : i < ks.length
    · obtain ⟨b, o, rfl, hb, hc⟩ := hin.at_ (by omega)
      have hck := hc i hlt
      clear hc
      have hok := Lib.hid (keyOkN (k := m) (ks := ks) (i := i) h6 h9)
      go_wp2
      go_roundw
      case rel => exact ⟨i + 1, by omega, by go_num, keys_succ H1.out hok.out, hbel⟩
      case measure => simp [intOf]; omega
    · have hall := Lib.hid (keysB_true (k := m) (ks := ks) (fun j hj => H1.out j (by omega)))
      go_wp2
      go_ret
      exact ⟨ret_bool hall.out.symm, hba⟩

theorem keys_any (m n : Int) (A : Option Addr) (c : Nat) (ks : List Int) (cs : Value) (B : Nat) (w : World) (h : IntsIn B w A ks) (hB : B ≤ w.heap.size) (hcap : ks.length ≤ c) :
    Calls Tryd.prog 68 #[.agg #[.int .i64 m, .int .i64 n, .slice A ks.length c, cs]] w fun e w' => e = .returned (.bool (keysB m ks)) ∧ Below w.heap.size w w' := by
  by_cases h6 : m = 6
  · subst h6; exact keys_6 n A c ks cs B w h hB hcap
  · by_cases h9 : m = 9
    · subst h9; exact keys_9 n A c ks cs B w h hB hcap
    · exact keys_N m n A c ks cs B w h hB hcap h6 h9

theorem counts_any (k n : Int) (Ak Ac : Option Addr) (nk ck nc cc : Nat) (w : World) (ht : TabIn w) (hg : 0 < w.heap.size) (hn1 : nk ≤ 9000000000000000000) (hn2 : nc ≤ 9000000000000000000) (h1 : 1 ≤ k) (h2 : k ≤ 10) :
    Calls Tryd.prog 67 #[.agg #[.int .i64 k, .int .i64 n, .slice Ak nk ck, .slice Ac nc cc]] w fun e w' => e = .returned (.bool (cntB k n nk nc)) ∧ Below w.heap.size w w' := by
  by_cases h : k = 6 ∨ k = 9 ∨ k = 7 ∨ k = 10
  · exact counts_rest k n Ak Ac nk ck nc cc w hn1 hn2 h
  · exact counts_tab k n Ak Ac nk ck nc cc w ht hg h1 h2 (by omega) (by omega) (by omega) (by omega)

/-! ### node -/
/-- what is wrong with a node, so many nodes standing ahead of it, at a depth -/
def nodeE (ahead depth : Int) (k n : Int) (ks : List Int) (nc : Nat) : Int :=
  if 65536 ≤ ahead then 4 else if 400 < depth then 7 else if k < 1 ∨ 10 < k then 29
  else if numE k n ≠ 0 then numE k n else if cntB k n ks.length nc = false then 19 else if keysB k ks = false then 2 else 0

set_option maxRecDepth 100000 in
set_option maxHeartbeats 1600000 in
theorem node_any (ahead depth k n : Int) (Ak Ac : Option Addr) (ck nc cc : Nat) (ks : List Int) (B : Nat) (w : World) (ht : TabIn w) (hg : 0 < w.heap.size) (h : IntsIn B w Ak ks) (hB : B ≤ w.heap.size) (hcap : ks.length ≤ ck) (hn2 : nc ≤ 9000000000000000000) :
    Calls Tryd.prog 35 #[.agg #[.int .i64 k, .int .i64 n, .slice Ak ks.length ck, .slice Ac nc cc], .int .i64 ahead, .int .i64 depth] w fun e w' => e = .returned (.int .i64 (nodeE ahead depth k n ks nc)) ∧ Below w.heap.size w w' := by
  have hl := h.1
  by_cases ha : 65536 ≤ ahead
  · have e1 : nodeE ahead depth k n ks nc = 4 := by simp [nodeE, ha]
    rw [e1]
    go_enter Tryd.func35, Tryd.ntmps35
    go_wp2_with fail
    go_ret
    exact ⟨rfl, (Below.refl _ _).alloc (Nat.le_refl _) _⟩
  by_cases hd : 400 < depth
  · have e1 : nodeE ahead depth k n ks nc = 7 := by simp [nodeE, ha, hd]
    rw [e1]
    go_enter Tryd.func35, Tryd.ntmps35
    go_wp2_with fail
    go_ret
    exact ⟨rfl, (Below.refl _ _).alloc (Nat.le_refl _) _⟩
  by_cases hk1 : k < 1
  · have e1 : nodeE ahead depth k n ks nc = 29 := by simp [nodeE, ha, hd, hk1]
    rw [e1]
    go_enter Tryd.func35, Tryd.ntmps35
    go_wp2_with fail
    go_ret
    exact ⟨rfl, (Below.refl _ _).alloc (Nat.le_refl _) _⟩
  by_cases hk2 : 10 < k
  · have e1 : nodeE ahead depth k n ks nc = 29 := by simp [nodeE, ha, hd, hk1, hk2]
    rw [e1]
    go_enter Tryd.func35, Tryd.ntmps35
    go_wp2_with fail
    go_ret
    exact ⟨rfl, (Below.refl _ _).alloc (Nat.le_refl _) _⟩
  have e1 : nodeE ahead depth k n ks nc = if numE k n ≠ 0 then numE k n else if cntB k n ks.length nc = false then 19 else if keysB k ks = false then 2 else 0 := by
    unfold nodeE; rw [if_neg ha, if_neg hd, if_neg (by omega)]
  rw [e1]
  have h1 : 1 ≤ k := by omega
  have h2 : k ≤ 10 := by omega
  have C1 := fun (w : World) => number_any k n (.slice Ak ks.length ck) (.slice Ac nc cc) w
  have C2 := fun (w : World) (ht : TabIn w) (hg : 0 < w.heap.size) => counts_any k n Ak Ac ks.length ck nc cc w ht hg (by omega) hn2 h1 h2
  have C3 := fun (w : World) (h : IntsIn B w Ak ks) (hB : B ≤ w.heap.size) => keys_any k n Ak ck ks (.slice Ac nc cc) B w h hB hcap
  obtain ⟨ne, hne⟩ : ∃ ne, numE k n = ne := ⟨_, rfl⟩
  obtain ⟨ce, hce⟩ : ∃ ce, cntB k n ks.length nc = ce := ⟨_, rfl⟩
  obtain ⟨ke, hke⟩ : ∃ ke, keysB k ks = ke := ⟨_, rfl⟩
  rw [hne, hce, hke]
  rw [hne] at C1
  rw [hce] at C2
  rw [hke] at C3
  clear hne hce hke e1 hl
  have D1 := Lib.hid C1
  have D2 := Lib.hid C2
  have D3 := Lib.hid C3
  clear C1 C2 C3
  have L1 := Lib.hid hg
  have cells : ∀ (w1 : World), Below (w.alloc (Obj.cells #[.int .i64 k, .int .i64 n, .slice Ak ks.length ck, .slice Ac nc cc] 26)).heap.size (w.alloc (Obj.cells #[.int .i64 k, .int .i64 n, .slice Ak ks.length ck, .slice Ac nc cc] 26)) w1 →
      w1.cell? ⟨w.heap.size, 0, none⟩ = some (.int .i64 k) ∧ w1.cell? ⟨w.heap.size, 1, none⟩ = some (.int .i64 n) ∧ w1.cell? ⟨w.heap.size, 2, none⟩ = some (.slice Ak ks.length ck) ∧ w1.cell? ⟨w.heap.size, 3, none⟩ = some (.slice Ac nc cc) ∧ TabIn w1 ∧ w.heap.size ≤ w1.heap.size ∧ IntsIn B w1 Ak ks ∧ Below w.heap.size w w1 := by
    intro w1 hb1
    have hb0 : Below w.heap.size w w1 := ((Below.refl _ w).alloc (Nat.le_refl _) _).trans (hb1.mono (by simp))
    refine ⟨(hb1.cell (p := ⟨_, _, none⟩) (by simp)).trans ?_, (hb1.cell (p := ⟨_, _, none⟩) (by simp)).trans ?_, (hb1.cell (p := ⟨_, _, none⟩) (by simp)).trans ?_, (hb1.cell (p := ⟨_, _, none⟩) (by simp)).trans ?_, ht.kept hg hb0, hb0.size, h.below (hb0.mono hB), hb0⟩
    all_goals rw [World.cell?_alloc_at _ _ _ _ rfl]; rfl
  have HC := Lib.hid cells
  have Hin := Lib.hid h
  have Ht := Lib.hid ht
  clear cells h ht hg
  by_cases hn0 : ne = 0
  · subst hn0
    cases ce with
    | false =>
      go_enter Tryd.func35, Tryd.ntmps35
      go_wp2_with (first | (go_at_call 66; refine (D1.out _).mono ?_; rintro e w1 ⟨rfl, hb1⟩; obtain ⟨c0, c1, c2, c3, t1, s1, i1, b1⟩ := HC.out w1 hb1; have Ht1 := Lib.hid t1; clear t1) | (go_at_call 67; refine (D2.out _ Ht1.out (by have := L1.out; omega)).mono ?_; rintro e w2 ⟨rfl, hb2⟩))
      go_ret
      exact ⟨rfl, b1.trans (hb2.mono (by omega))⟩
    | true =>
      cases ke with
      | false =>
        go_enter Tryd.func35, Tryd.ntmps35
        go_wp2_with (first | (go_at_call 66; refine (D1.out _).mono ?_; rintro e w1 ⟨rfl, hb1⟩; obtain ⟨c0, c1, c2, c3, t1, s1, i1, b1⟩ := HC.out w1 hb1; have Ht1 := Lib.hid t1; clear t1) | (go_at_call 67; refine (D2.out _ Ht1.out (by have := L1.out; omega)).mono ?_; rintro e w2 ⟨rfl, hb2⟩; obtain ⟨c20, c21, c22, c23, t2, s2, i2, b2⟩ := HC.out w2 (hb1.trans (hb2.mono hb1.size)); clear t2) | (go_at_call 68; refine (D3.out _ i2 (by omega)).mono ?_; rintro e w3 ⟨rfl, hb3⟩))
        go_ret
        exact ⟨rfl, b2.trans (hb3.mono (by omega))⟩
      | true =>
        go_enter Tryd.func35, Tryd.ntmps35
        go_wp2_with (first | (go_at_call 66; refine (D1.out _).mono ?_; rintro e w1 ⟨rfl, hb1⟩; obtain ⟨c0, c1, c2, c3, t1, s1, i1, b1⟩ := HC.out w1 hb1; have Ht1 := Lib.hid t1; clear t1) | (go_at_call 67; refine (D2.out _ Ht1.out (by have := L1.out; omega)).mono ?_; rintro e w2 ⟨rfl, hb2⟩; obtain ⟨c20, c21, c22, c23, t2, s2, i2, b2⟩ := HC.out w2 (hb1.trans (hb2.mono hb1.size)); clear t2) | (go_at_call 68; refine (D3.out _ i2 (by omega)).mono ?_; rintro e w3 ⟨rfl, hb3⟩))
        go_ret
        exact ⟨rfl, b2.trans (hb3.mono (by omega))⟩
  · have hn0' : (ne == 0) = false := by simpa using hn0
    have hn0'' : (ne != 0) = true := by simpa using hn0
    go_enter Tryd.func35, Tryd.ntmps35
    go_wp2_with (go_at_call 66; refine (D1.out _).mono ?_; rintro e w1 ⟨rfl, hb1⟩; obtain ⟨c0, c1, c2, c3, t1, s1, i1, b1⟩ := HC.out w1 hb1; have Ht1 := Lib.hid t1; clear t1)
    go_ret
    exact ⟨rfl, b1⟩

end Go.Proofs.YtnolhcdfknjncaaDoor

/-
  core.all: the iterator over a term's nodes: its closures by contracts, by induction on the term; slices.ContainsFunc and slices.IndexFunc over terms.
-/
set_option linter.unusedVariables false
set_option linter.unusedSimpArgs false
namespace Go.Proofs.YtnolhcdfknjncaaDoor
open Go.RowKit Go.Shelf

attribute [local go_sem] Oper.semAt_some

/-! ### plain words -/
mutual
def Core.hgt : Core → Nat
  | .mk _ _ _ cs => hgtL cs + 1
def hgtL : List Core → Nat
  | [] => 0
  | c :: cs => max c.hgt (hgtL cs)
end
mutual
/-- a term's nodes in order, with their depths -/
def nodesL (d : Int) : Core → List (Int × Core)
  | .mk k n ks cs => (d, .mk k n ks cs) :: nodesLs (d + 1) cs
def nodesLs (d : Int) : List Core → List (Int × Core)
  | [] => []
  | c :: cs => nodesL d c ++ nodesLs d cs
end
theorem hgtL_get {cs : List Core} {i : Nat} (h : i < cs.length) : cs[i].hgt ≤ hgtL cs := by
  induction cs generalizing i with
  | nil => simp at h
  | cons c cs ih =>
    cases i with
    | zero => simp [hgtL]; omega
    | succ i => have := ih (i := i) (by simpa using h); simp [hgtL]; omega
theorem nodesLs_append (d : Int) (a b : List Core) : nodesLs d (a ++ b) = nodesLs d a ++ nodesLs d b := by
  induction a with
  | nil => simp [nodesLs]
  | cons c a ih => simp [nodesLs, ih]
theorem nodesLs_take (d : Int) {cs : List Core} {i : Nat} (h : i < cs.length) : nodesLs d (cs.take (i + 1)) = nodesLs d (cs.take i) ++ nodesL d cs[i] := by
  rw [List.take_add_one, List.getElem?_eq_getElem h, nodesLs_append]; simp [nodesLs]
theorem nodesLs_take_le (d : Int) (cs : List Core) (i : Nat) : nodesLs d (cs.take i) <+: nodesLs d cs := by
  conv => rhs; rw [← List.take_append_drop i cs, nodesLs_append]
  exact List.prefix_append _ _

/-! ### worlds -/
/-- what lay below B still lies -/
def Stay (B : Nat) (w0 W : World) : Prop := ∀ b o v, b < B → w0.cell? ⟨b, o, none⟩ = some v → W.cell? ⟨b, o, none⟩ = some v
/-- of cells, all but some blocks lie as they lay -/
structure KpX (X : Nat → Prop) (W W' : World) : Prop where
  size : W.heap.size ≤ W'.heap.size
  same : ∀ (k : Nat) (o : Obj), W.heap[k]? = some o → o.isCells = true → ¬ X k → W'.heap[k]? = some o
theorem KpX.refl (X : Nat → Prop) (W : World) : KpX X W W := ⟨Nat.le_refl _, fun _ _ h _ _ => h⟩
theorem KpX.trans {X : Nat → Prop} {A B C : World} (h : KpX X A B) (k : KpX X B C) : KpX X A C := ⟨Nat.le_trans h.size k.size, fun i o hi hc hx => k.same i o (h.same i o hi hc hx) hc hx⟩
theorem KpX.alloc (X : Nat → Prop) (W : World) (o : Obj) : KpX X W (W.alloc o) := ⟨by simp, fun k o' hk _ _ => (Below.heap_alloc W o k (Array.getElem?_eq_some_iff.1 hk).1).trans hk⟩
theorem KpX.cell {X : Nat → Prop} {W W' : World} (h : KpX X W W') {b o : Nat} {v : Value} (hc : W.cell? ⟨b, o, none⟩ = some v) (hx : ¬ X b) : W'.cell? ⟨b, o, none⟩ = some v := by
  obtain ⟨ob, ho, hcc⟩ := cells_of_cell hc
  exact (World.cell?_of_block ((h.same b ob ho hcc hx).trans ho.symm)).trans hc
theorem KpX.frozen {X : Nat → Prop} {W W' : World} (h : KpX X W W') {b o : Nat} {v : Value} (hc : W.cell? ⟨b, o, none⟩ = some v) (hx : ¬ X b) : W'.frozen? ⟨b, o, none⟩ = W.frozen? ⟨b, o, none⟩ := by
  obtain ⟨ob, ho, hcc⟩ := cells_of_cell hc
  exact World.frozen?_of_block ((h.same b ob ho hcc hx).trans ho.symm)
theorem KpX.setCell {X : Nat → Prop} (W : World) {b : Nat} (o : Nat) (v : Value) (hx : X b) : KpX X W (W.setCell ⟨b, o, none⟩ v) :=
  ⟨by simp [World.setCell], fun k ob hk _ hxk => (Below.heap_setCell W _ _ k (fun e => hxk (by subst e; exact hx))).trans hk⟩
theorem KpX.below {X : Nat → Prop} {W W' : World} (h : Below W.heap.size W W') : KpX X W W' := ⟨h.size, fun k o hk _ _ => (h.block k (Array.getElem?_eq_some_iff.1 hk).1).trans hk⟩
theorem KpX.putObj {X : Nat → Prop} (W : World) (l : Nat) (o o' : Obj) (h : W.heap[l]? = some o) (ho : o.isCells = false) : KpX X W (W.putObj l o') :=
  ⟨by simp, fun k ob hk hc _ => (World.putObj_heap_other (fun e => by subst e; rw [hk] at h; cases h; rw [hc] at ho; cases ho)).trans hk⟩
theorem Stay.step {B : Nat} {w0 A C : World} {X : Nat → Prop} (h : Stay B w0 A) (hk : KpX X A C) (hX : ∀ k, X k → B ≤ k) : Stay B w0 C :=
  fun b o v hb hc => hk.cell (h b o v hb hc) (fun hx => by have := hX b hx; omega)
theorem Stay.refl (B : Nat) (w : World) : Stay B w w := fun _ _ _ _ h => h
theorem Stay.of_below {B : Nat} {w w' : World} (h : Below B w w') : Stay B w w' := fun b o v hb hc => (h.cell (p := ⟨b, o, none⟩) hb).trans hc
theorem Stay.trans {B : Nat} {a b c : World} (h : Stay B a b) (k : Stay B b c) : Stay B a c := fun x o v hb hc => k x o v hb (h x o v hb hc)

theorem IntsIn.stay {B : Nat} {w w' : World} {A : Option Addr} {ks : List Int} (h : IntsIn B w A ks) (hb : Stay B w w') : IntsIn B w' A ks := by
  refine ⟨h.1, h.2.imp id ?_⟩
  rintro ⟨b, o, rfl, hlt, hc⟩
  exact ⟨b, o, rfl, hlt, fun j hj => hb _ _ _ hlt (hc j hj)⟩
theorem CoreIn.stay {B : Nat} {w w' : World} (hb : Stay B w w') {t : Core} {v : Array Value} (h : CoreIn B w t v) : CoreIn B w' t v := by
  induction h with
  | mk hks hck hcc hcl hA c0 c1 c2 c3 hsub ih =>
    refine .mk (hks.stay hb) hck hcc hcl hA ?_ ?_ ?_ ?_ ih
    · exact fun i hi => hb _ _ _ (hA (by omega)).2 (c0 i hi)
    · exact fun i hi => hb _ _ _ (hA (by omega)).2 (c1 i hi)
    · exact fun i hi => hb _ _ _ (hA (by omega)).2 (c2 i hi)
    · exact fun i hi => hb _ _ _ (hA (by omega)).2 (c3 i hi)

/-! ### slices.IndexFunc, slices.ContainsFunc over terms: what the function does is a premise -/
def IdxPost (n : Nat) (I : Nat → World → Prop) (Q : World → Prop) (e : Ending) (W' : World) : Prop := (e = .returned (.int .i64 (-1)) ∧ I n W') ∨ (∃ i : Nat, e = .returned (.int .i64 i) ∧ Q W')
def AskPost (i : Nat) (I : Nat → World → Prop) (Q : World → Prop) (e : Ending) (W' : World) : Prop := (e = .returned (.bool false) ∧ I (i + 1) W') ∨ (e = .returned (.bool true) ∧ Q W')

set_option maxRecDepth 100000 in
set_option maxHeartbeats 800000 in
theorem indexFunc_any (g : Nat) (caps : Array Value) (eg : ∀ args w, (callFunc g args).run Tryd.prog w = .ok (.enter g args) w) (Ac : Option Addr) (n c b o : Nat) (G0 G1 G2 G3 : Nat → Value) (I : Nat → World → Prop) (Q : World → Prop) (hn : n ≤ 9000000000000000000)
    (hA : 0 < n → Ac = some ⟨b, o, none⟩)
    (hcells : ∀ i W, I i W → i < n → W.cell? ⟨b, o + i * 4, none⟩ = some (G0 i) ∧ W.cell? ⟨b, o + i * 4 + 1, none⟩ = some (G1 i) ∧ W.cell? ⟨b, o + i * 4 + 2, none⟩ = some (G2 i) ∧ W.cell? ⟨b, o + i * 4 + 3, none⟩ = some (G3 i))
    (hcall : ∀ i W, I i W → i < n → Calls Tryd.prog g (#[.agg #[G0 i, G1 i, G2 i, G3 i]] ++ caps) W (AskPost i I Q)) (W : World) (h0 : I 0 W) :
    Calls Tryd.prog 82 #[.slice Ac n c, .func (.func g) #[] caps] W (IdxPost n I Q) := by
  have H1 := Lib.hid hcells
  have H2 := Lib.hid hcall
  have H3 := Lib.hid hA
  clear hcells hcall hA
  go_enter Tryd.func82, Tryd.ntmps82
  go_wp2_with fail
  go_loopw [8] (fun i wr => ∃ k : Nat, k ≤ n ∧ i = .int .i64 k ∧ I k wr) (fun i _ => n - (intOf i).toNat)
  case atStart => exact ⟨0, by omega, rfl, h0⟩
  case round =>
    obtain ⟨k, hk, rfl, hI⟩ := hrel
    by_cases hlt : k < n
    · obtain ⟨c0, c1, c2, c3⟩ := H1.out k wr hI hlt
      obtain rfl := H3.out (by omega)
      have hq := Lib.hid (H2.out k wr hI hlt)
      go_wp2_with fail
      refine hq.out.mono ?_
      rintro e w' (⟨rfl, hI'⟩ | ⟨rfl, hQ⟩)
      · go_wp2_with fail
        go_roundw
        case rel => exact ⟨k + 1, by omega, by go_num, hI'⟩
        case measure => simp [intOf]; omega
      · go_wp2_with fail
        go_ret
        exact .inr ⟨k, rfl, hQ⟩
    · have : k = n := by omega
      subst this
      go_wp2_with fail
      go_ret
      exact .inl ⟨rfl, hI⟩

def HasPost (n : Nat) (I : Nat → World → Prop) (Q : World → Prop) (e : Ending) (W' : World) : Prop := (e = .returned (.bool false) ∧ I n W') ∨ (e = .returned (.bool true) ∧ Q W')
theorem containsFunc_any (g : Nat) (caps : Array Value) (eg : ∀ args w, (callFunc g args).run Tryd.prog w = .ok (.enter g args) w) (Ac : Option Addr) (n c b o : Nat) (G0 G1 G2 G3 : Nat → Value) (I : Nat → World → Prop) (Q : World → Prop) (hn : n ≤ 9000000000000000000)
    (hA : 0 < n → Ac = some ⟨b, o, none⟩)
    (hcells : ∀ i W, I i W → i < n → W.cell? ⟨b, o + i * 4, none⟩ = some (G0 i) ∧ W.cell? ⟨b, o + i * 4 + 1, none⟩ = some (G1 i) ∧ W.cell? ⟨b, o + i * 4 + 2, none⟩ = some (G2 i) ∧ W.cell? ⟨b, o + i * 4 + 3, none⟩ = some (G3 i))
    (hcall : ∀ i W, I i W → i < n → Calls Tryd.prog g (#[.agg #[G0 i, G1 i, G2 i, G3 i]] ++ caps) W (AskPost i I Q)) (W : World) (h0 : I 0 W) :
    Calls Tryd.prog 64 #[.slice Ac n c, .func (.func g) #[] caps] W (HasPost n I Q) := by
  have H := Lib.hid (indexFunc_any g caps eg Ac n c b o G0 G1 G2 G3 I Q hn hA hcells hcall W h0)
  clear hcells hcall hA
  go_enter Tryd.func64, Tryd.ntmps64
  go_wp2_with fail
  refine H.out.mono ?_
  rintro e w' (⟨rfl, hI⟩ | ⟨i, rfl, hQ⟩)
  · go_wp2_with fail
    go_ret
    exact .inl ⟨rfl, hI⟩
  · have hi : (0 : Int) ≤ (i : Int) := by omega
    go_wp2_with fail
    go_ret
    exact .inr ⟨rfl, hQ⟩

/-! ### the walker -/
/-- a node as it is told: its depth, the term, its four cells -/
structure NodeX (B : Nat) (w0 : World) where
  d : Int
  t : Core
  v : Array Value
  hin : CoreIn B w0 t v
  hd : 0 ≤ d ∧ d ≤ 60000
def projX {B : Nat} {w0 : World} (l : List (NodeX B w0)) : List (Int × Core) := l.map fun x => (x.d, x.t)
theorem enters_walk : ∀ args w, (callFunc 63 args).run Tryd.prog w = .ok (.enter 63 args) w := enters_of Tryd.func63 (by kernel_rfl) rfl
theorem enters_kid : ∀ args w, (callFunc 65 args).run Tryd.prog w = .ok (.enter 65 args) w := enters_of Tryd.func65 (by kernel_rfl) rfl

/-- how a walk over a part of the term ends -/
def WalkPost {B : Nat} {w0 : World} (yes no : Bool) (l : List (Int × Core)) (X : Nat → Prop) (J Jx : List (NodeX B w0) → World → Prop) (pre : List (NodeX B w0)) (W : World) (e : Ending) (W' : World) : Prop :=
  (e = .returned (.bool yes) ∧ ∃ q : List (NodeX B w0), projX q = l ∧ J (pre ++ q) W' ∧ KpX X W W') ∨ (e = .returned (.bool no) ∧ ∃ q : List (NodeX B w0), projX q <+: l ∧ Jx (pre ++ q) W')

/-- what holds in a world in which the walk goes on -/
structure WalkAt {B : Nat} (w0 : World) (n₀ N l : Nat) (X : Nat → Prop) (J : List (NodeX B w0) → World → Prop) (yb wb : Nat) (pre : List (NodeX B w0)) (W : World) : Prop where
  stay : Stay B w0 W
  size : n₀ ≤ W.heap.size
  yc : W.cell? ⟨yb, 0, none⟩ = some (.func (.yield l) #[] #[])
  wc : W.cell? ⟨wb, 0, none⟩ = some (.func (.func 63) #[] #[.pointer (some ⟨yb, 0, none⟩), .pointer (some ⟨wb, 0, none⟩)])
  inv : J pre W
theorem WalkAt.alloc {B : Nat} {w0 : World} {n₀ N l : Nat} {X : Nat → Prop} {J : List (NodeX B w0) → World → Prop} {yb wb : Nat} {pre : List (NodeX B w0)} {W : World} (h : WalkAt w0 n₀ N l X J yb wb pre W) (hJ : AbidesFrom n₀ J) (o : Obj) : WalkAt w0 n₀ N l X J yb wb pre (W.alloc o) :=
  have hk := KpX.alloc (fun _ => False) W o
  ⟨h.stay.step hk (fun _ hx => hx.elim), by have := h.size; simp; omega, hk.cell h.yc id, hk.cell h.wc id, hJ _ _ _ none h.inv (World.grownBy_alloc W o none) (fun r e => by cases e)⟩
theorem WalkAt.step {B : Nat} {w0 : World} {n₀ N l : Nat} {X : Nat → Prop} {J : List (NodeX B w0) → World → Prop} {yb wb : Nat} {pre pre' : List (NodeX B w0)} {W W' : World} (h : WalkAt w0 n₀ N l X J yb wb pre W) (hX : ∀ k, X k → B ≤ k ∧ k < n₀) (hyb : n₀ ≤ yb) (hwb : n₀ ≤ wb) (hk : KpX X W W') (hJ : J pre' W') : WalkAt w0 n₀ N l X J yb wb pre' W' :=
  ⟨h.stay.step hk (fun k hx => (hX k hx).1), Nat.le_trans h.size hk.size, hk.cell h.yc (fun hx => by have := (hX _ hx).2; omega), hk.cell h.wc (fun hx => by have := (hX _ hx).2; omega), hJ⟩

/-- the walker does what it should at a term -/
def WalkOk {B : Nat} (w0 : World) (n₀ N l : Nat) (X : Nat → Prop) (J Jx : List (NodeX B w0) → World → Prop) (yb wb : Nat) (t : Core) (v : Array Value) : Prop :=
  ∀ (d : Int) pre W, 0 ≤ d → d + t.hgt ≤ 60000 → WalkAt w0 n₀ N l X J yb wb pre W → pre.length + (nodesL d t).length ≤ N →
    Calls Tryd.prog 63 #[.agg v, .int .i64 d, .pointer (some ⟨yb, 0, none⟩), .pointer (some ⟨wb, 0, none⟩)] W (WalkPost true false (nodesL d t) X J Jx pre W)

/-- 'func(k api.Core) bool { return !walk(k, depth+1) }' -/
theorem kid_any {B : Nat} {w0 : World} {n₀ N l : Nat} {X : Nat → Prop} {J Jx : List (NodeX B w0) → World → Prop} {yb wb : Nat} (hJ : AbidesFrom n₀ J) (t : Core) (c0 c1 c2 c3 : Value) (hok : WalkOk w0 n₀ N l X J Jx yb wb t #[c0, c1, c2, c3])
    (d : Int) (hd0 : 0 ≤ d) (hd : d + 1 + t.hgt ≤ 60000) (db : Nat) (pre : List (NodeX B w0)) (W : World) (hW : WalkAt w0 n₀ N l X J yb wb pre W) (hN : pre.length + (nodesL (d + 1) t).length ≤ N)
    (hdb : W.cell? ⟨db, 0, none⟩ = some (.int .i64 d)) :
    Calls Tryd.prog 65 #[.agg #[c0, c1, c2, c3], .pointer (some ⟨wb, 0, none⟩), .pointer (some ⟨db, 0, none⟩)] W (WalkPost false true (nodesL (d + 1) t) X J Jx pre W) := by
  have hW1 := hW.alloc hJ (.cells #[c0, c1, c2, c3] 26)
  have H := Lib.hid (hok (d + 1) pre _ (by omega) (by omega) hW1 hN)
  have hwc := hW.wc
  have hwb := World.block_lt_of_cell? _ _ hwc
  have hdbl := World.block_lt_of_cell? _ _ hdb
  have hdm : d < 60000 := by omega
  clear hW hW1 hok hJ
  go_enter Tryd.func65, Tryd.ntmps65
  go_wp2_with fail
  refine H.out.mono ?_
  rintro e w' (⟨rfl, q, hq, hJq, hk⟩ | ⟨rfl, q, hq, hJq⟩)
  · go_wp2_with fail
    go_ret
    exact .inl ⟨rfl, q, hq, hJq, (KpX.alloc X W _).trans hk⟩
  · go_wp2_with fail
    go_ret
    exact .inr ⟨rfl, q, hq, hJq⟩

theorem projX_append {B : Nat} {w0 : World} (a b : List (NodeX B w0)) : projX (a ++ b) = projX a ++ projX b := by simp [projX]
theorem projX_length {B : Nat} {w0 : World} (a : List (NodeX B w0)) : (projX a).length = a.length := by simp [projX]

set_option maxRecDepth 100000 in
set_option maxHeartbeats 2000000 in
/-- **'walk = func(c, depth) bool { return yield(depth, c) && !slices.ContainsFunc(c.Kids, ..) }'**: by induction on the term. -/
theorem walk_ok {B : Nat} {w0 : World} {n₀ N l : Nat} {X : Nat → Prop} {J Jx : List (NodeX B w0) → World → Prop} {yb wb : Nat} (hB : B ≤ n₀) (hX : ∀ k, X k → B ≤ k ∧ k < n₀) (hyb : n₀ ≤ yb) (hwb : n₀ ≤ wb) (hJ : AbidesFrom n₀ J)
    (hY : ∀ m pre (x : NodeX B w0) W, J pre W → pre.length < N → YieldAt Fence.wide m Tryd.prog l #[.int .i64 x.d, .agg x.v] W fun e W' => (e = .returned (.bool true) ∧ J (pre ++ [x]) W' ∧ KpX X W W') ∨ (e = .returned (.bool false) ∧ Jx (pre ++ [x]) W'))
    {t : Core} {v : Array Value} (hin : CoreIn B w0 t v) : WalkOk w0 n₀ N l X J Jx yb wb t v := by
  induction hin with
  | @mk k n ks cs Ak ck Ac cc b o G0 G1 G2 G3 hks hck hcc hcl hA c0 c1 c2 c3 hsub ih =>
    intro d pre W hd0 hd hW hN
    have hin : CoreIn B w0 (.mk k n ks cs) #[.int .i64 k, .int .i64 n, .slice Ak ks.length ck, .slice Ac cs.length cc] := .mk hks hck hcc hcl hA c0 c1 c2 c3 hsub
    have hh : (Core.mk k n ks cs).hgt = hgtL cs + 1 := by simp [Core.hgt]
    rw [hh] at hd
    have hnl : nodesL d (.mk k n ks cs) = (d, .mk k n ks cs) :: nodesLs (d + 1) cs := by simp [nodesL]
    rw [hnl] at hN ⊢
    simp only [List.length_cons] at hN
    obtain ⟨x, hx⟩ : ∃ x : NodeX B w0, x = ⟨d, _, _, hin, ⟨hd0, by omega⟩⟩ := ⟨_, rfl⟩
    have hxd : x.d = d := by rw [hx]
    have hxv : x.v = #[.int .i64 k, .int .i64 n, .slice Ak ks.length ck, .slice Ac cs.length cc] := by rw [hx]
    have hxt : x.t = .mk k n ks cs := by rw [hx]
    clear hx
    obtain ⟨W2, hW2⟩ : ∃ W2, (W.alloc (.cells #[.int .i64 k, .int .i64 n, .slice Ak ks.length ck, .slice Ac cs.length cc] 26)).alloc (.cells #[.int .i64 d] 3) = W2 := ⟨_, rfl⟩
    have hWA : WalkAt w0 n₀ N l X J yb wb pre W2 := by rw [← hW2]; exact (hW.alloc hJ _).alloc hJ _
    have hk2 : KpX X W W2 := by rw [← hW2]; exact (KpX.alloc X W _).trans (KpX.alloc X _ _)
    have e0 : W2.cell? ⟨W.heap.size, 0, none⟩ = some (.int .i64 k) := by rw [← hW2, World.cell?_alloc_past _ _ _ (by simp), World.cell?_alloc_at _ _ _ _ rfl]; rfl
    have e1 : W2.cell? ⟨W.heap.size, 1, none⟩ = some (.int .i64 n) := by rw [← hW2, World.cell?_alloc_past _ _ _ (by simp), World.cell?_alloc_at _ _ _ _ rfl]; rfl
    have e2 : W2.cell? ⟨W.heap.size, 2, none⟩ = some (.slice Ak ks.length ck) := by rw [← hW2, World.cell?_alloc_past _ _ _ (by simp), World.cell?_alloc_at _ _ _ _ rfl]; rfl
    have e3 : W2.cell? ⟨W.heap.size, 3, none⟩ = some (.slice Ac cs.length cc) := by rw [← hW2, World.cell?_alloc_past _ _ _ (by simp), World.cell?_alloc_at _ _ _ _ rfl]; rfl
    have ed : W2.cell? ⟨W.heap.size + 1, 0, none⟩ = some (.int .i64 d) := by rw [← hW2, World.cell?_alloc_at _ _ _ _ (by simp)]; rfl
    have hyc := hWA.yc
    have HW := Lib.hid hWA
    -- the round
    have hnx : ¬ X W.heap.size := fun hx => by have := (hX _ hx).2; have := hW.size; omega
    have hnx1 : ¬ X (W.heap.size + 1) := fun hx => by have := (hX _ hx).2; have := hW.size; omega
    have hy2 := (hY (1 - 1) pre x W2 hWA.inv (by omega)).mono (R' := fun e W3 =>
      (e = .returned (.bool true) ∧ W3.cell? ⟨W.heap.size, 3, none⟩ = some (.slice Ac cs.length cc) ∧ Hid (KpX X W W3 ∧ WalkAt w0 n₀ N l X J yb wb (pre ++ [x]) W3 ∧ W3.cell? ⟨W.heap.size + 1, 0, none⟩ = some (.int .i64 d))) ∨ (e = .returned (.bool false) ∧ Jx (pre ++ [x]) W3))
      (fun e W3 h => h.elim (fun ⟨he, hj, hk⟩ => .inl ⟨he, hk.cell e3 hnx, hk2.trans hk, hWA.step hX hyb hwb hk hj, hk.cell ed hnx1⟩) .inr)
    obtain ⟨fn, tmps, assign, body, hy, hR⟩ := hy2
    rw [hxd, hxv] at hy
    have HR := Lib.hid hR
    clear hR hWA hW hk2
    refine (callsIn_wide (n := 1)).1 ?_
    refine callsIn_of_wp Tryd.func63 rfl trivial ?_ rfl
    simp only [Tryd.ntmps63, List.size_toArray, List.length_cons, List.length_nil, Nat.reduceAdd, Nat.reduceSub, Array.replicate_succ, Array.replicate_zero, List.push_toArray, List.append_toArray, List.nil_append, List.cons_append]
    gi_wp2_with fail
    refine HR.out.mono ?_
    rintro e W3 (⟨rfl, e33, hh3⟩ | ⟨rfl, hJx⟩)
    · -- the round goes on: the Kids
      obtain ⟨hk3, hW3, ed3⟩ := hh3.out
      have hdbX : ¬ X (W.heap.size + 1) := hnx1
      have HC := Lib.hid (containsFunc_any 65 #[.pointer (some ⟨wb, 0, none⟩), .pointer (some ⟨W.heap.size + 1, 0, none⟩)] enters_kid Ac cs.length cc b o G0 G1 G2 G3
        (fun i V => ∃ q : List (NodeX B w0), projX q = nodesLs (d + 1) (cs.take i) ∧ WalkAt w0 n₀ N l X J yb wb (pre ++ [x] ++ q) V ∧ KpX X W3 V ∧ V.cell? ⟨W.heap.size + 1, 0, none⟩ = some (.int .i64 d))
        (fun V => ∃ q : List (NodeX B w0), projX q <+: nodesLs (d + 1) cs ∧ Jx (pre ++ [x] ++ q) V)
        (by omega) (fun h => (hA h).1)
        (fun i V ⟨q, _, hV, _, _⟩ hi => ⟨hV.stay _ _ _ (hA (by omega)).2 (c0 i hi), hV.stay _ _ _ (hA (by omega)).2 (c1 i hi), hV.stay _ _ _ (hA (by omega)).2 (c2 i hi), hV.stay _ _ _ (hA (by omega)).2 (c3 i hi)⟩)
        (fun i V ⟨q, hq, hV, hkV, edV⟩ hi => by
          have hg := hgtL_get hi
          have hql := congrArg List.length hq
          rw [projX_length] at hql
          have htk := nodesLs_take (d + 1) hi
          have hle := (nodesLs_take_le (d + 1) cs (i + 1)).length_le
          rw [htk, List.length_append] at hle
          refine (kid_any hJ cs[i] _ _ _ _ (ih i hi) d hd0 (by omega) (W.heap.size + 1) _ V hV (by simp; omega) edV).mono ?_
          rintro e V' (⟨rfl, r, hr, hJr, hkr⟩ | ⟨rfl, r, hr, hJr⟩)
          · refine .inl ⟨rfl, q ++ r, by rw [projX_append, hq, hr, htk], ?_, hkV.trans hkr, hkr.cell edV hdbX⟩
            exact hV.step hX hyb hwb hkr (by rw [← List.append_assoc]; exact hJr)
          · refine .inr ⟨rfl, q ++ r, ?_, by rw [← List.append_assoc]; exact hJr⟩
            rw [projX_append, hq]
            refine List.IsPrefix.trans ?_ (nodesLs_take_le (d + 1) cs (i + 1))
            rw [htk]
            exact (List.prefix_append_right_inj _).2 hr)
        W3 ⟨[], by simp [projX, nodesLs], by rw [List.append_nil]; exact hW3, KpX.refl _ _, ed3⟩)
      clear ih hY hW3 ed3 hh3 HR hy e0 e1 e2 e3 ed hyc c0 c1 c2 c3 hsub hin
      gi_wp2_with (refine ⟨trivial, ?_⟩; gi_at_call 64; refine (callsIn_wide.2 HC.out).mono ?_; rintro e W4 (⟨rfl, q, hq, hV, hkV, _⟩ | ⟨rfl, q, hq, hJq⟩))
      · go_ret
        rw [List.take_of_length_le (Nat.le_refl _)] at hq
        exact .inl ⟨rfl, x :: q, by simp [projX] at hq ⊢; exact ⟨⟨hxd, hxt⟩, hq⟩, by have := hV.inv; simpa using this, hk3.trans hkV⟩
      · go_ret
        exact .inr ⟨rfl, x :: q, by
          have : projX (x :: q) = (d, .mk k n ks cs) :: projX q := by simp [projX, hxd, hxt]
          rw [this]; exact List.cons_prefix_cons.2 ⟨rfl, hq⟩, by simpa using hJq⟩
    · clear ih hY HR hy e0 e1 e2 e3 ed hyc c0 c1 c2 c3 hsub hin
      gi_wp2_with fail
      refine ⟨trivial, ?_⟩
      gi_wp2_with fail
      go_ret
      exact .inr ⟨rfl, [x], by simp [projX, hxd, hxt], by simpa using hJx⟩

theorem enters_all1 : ∀ args w, (callFunc 62 args).run Tryd.prog w = .ok (.enter 62 args) w := enters_of Tryd.func62 (by kernel_rfl) rfl

set_option maxRecDepth 100000 in
set_option maxHeartbeats 1000000 in
/-- **'core.all(c)' hands back a value that gives the term's nodes in order.** -/
theorem all_stops {B : Nat} {w0 : World} {t : Core} {v : Array Value} (hin : CoreIn B w0 t v) (hh : 1 + (t.hgt : Int) ≤ 60000) (X : Nat → Prop) (cb : Nat) (w : World) (hX : ∀ k, X k → B ≤ k ∧ k < w.heap.size) (hB : B ≤ w.heap.size) (hstay : Stay B w0 w)
    {c0 c1 c2 c3 : Value} (hv : v = #[c0, c1, c2, c3]) (hcb : ¬ X cb) (e0 : w.cell? ⟨cb, 0, none⟩ = some c0) (e1 : w.cell? ⟨cb, 1, none⟩ = some c1) (e2 : w.cell? ⟨cb, 2, none⟩ = some c2) (e3 : w.cell? ⟨cb, 3, none⟩ = some c3) (n : Nat) :
    SeqStopsK Fence.wide n Tryd.prog 62 #[.pointer (some ⟨cb, 0, none⟩)] (fun x : NodeX B w0 => #[.int .i64 x.d, .agg x.v]) (KpX X) (fun xs => projX xs = nodesL 1 t) (fun pre => projX pre <+: nodesL 1 t) (nodesL 1 t).length w := by
  intro l J Jx W hW hJ hJx hY h0
  subst hv
  have hcbl : cb < w.heap.size := World.block_lt_of_cell? _ _ e0
  have f0 := (hW.cell (p := ⟨_, _, none⟩) hcbl).trans e0
  have f1 := (hW.cell (p := ⟨_, _, none⟩) hcbl).trans e1
  have f2 := (hW.cell (p := ⟨_, _, none⟩) hcbl).trans e2
  have f3 := (hW.cell (p := ⟨_, _, none⟩) hcbl).trans e3
  have hws := hW.size
  obtain ⟨W1, hW1⟩ : ∃ W1, W.alloc (.cells #[.func (.yield l) #[] #[]] 121) = W1 := ⟨_, rfl⟩
  obtain ⟨W2, hW2⟩ : ∃ W2, W1.alloc (.cells #[.func (.func 63) #[] #[.pointer (some ⟨W.heap.size, 0, none⟩), .pointer (some ⟨W.heap.size + 1, 0, none⟩)]] 122) = W2 := ⟨_, rfl⟩
  have hs1 : W1.heap.size = W.heap.size + 1 := by rw [← hW1]; simp
  have hk2 : KpX X W W2 := by rw [← hW2, ← hW1]; exact (KpX.alloc X _ _).trans (KpX.alloc X _ _)
  have hJ2 : J [] W2 := by rw [← hW2, ← hW1]; exact hJ _ _ _ none (hJ _ _ _ none h0 (World.grownBy_alloc _ _ none) (fun r e => by cases e)) (World.grownBy_alloc _ _ none) (fun r e => by cases e)
  have hyc : W2.cell? ⟨W.heap.size, 0, none⟩ = some (.func (.yield l) #[] #[]) := by rw [← hW2, World.cell?_alloc_past _ _ _ (by rw [hs1]; simp), ← hW1, World.cell?_alloc_at _ _ _ _ rfl]; rfl
  have hwc : W2.cell? ⟨W.heap.size + 1, 0, none⟩ = some (.func (.func 63) #[] #[.pointer (some ⟨W.heap.size, 0, none⟩), .pointer (some ⟨W.heap.size + 1, 0, none⟩)]) := by rw [← hW2, World.cell?_alloc_at _ _ _ _ hs1.symm]; rfl
  have g0 := hk2.cell f0 hcb
  have g1 := hk2.cell f1 hcb
  have g2 := hk2.cell f2 hcb
  have g3 := hk2.cell f3 hcb
  have hwalk : WalkOk w0 W.heap.size (nodesL 1 t).length l X J Jx W.heap.size (W.heap.size + 1) t #[c0, c1, c2, c3] :=
    walk_ok (by omega) (fun k hx => ⟨(hX k hx).1, by have := (hX k hx).2; omega⟩) (Nat.le_refl _) (by omega) hJ
      (fun m pre x V hj hl => by
        obtain ⟨fn, tmps, assign, body, hy, hR⟩ := hY pre x V hj hl
        exact ⟨fn, tmps, assign, body, hy, hR.1, fun c cs _ => hR.2 c cs (room_wide _)⟩) hin
  have HC := Lib.hid (hwalk 1 [] W2 (by omega) hh ⟨hstay.trans ((Stay.of_below (below_of hW hB)).trans (Stay.step (Stay.refl B W) hk2 (fun k hx => (hX k hx).1))), by rw [← hW2]; simp; omega, hyc, hwc, hJ2⟩ (by simp))
  have hset : (W1.alloc (.cells #[.nilFunc] 122)).setCell ⟨W.heap.size + 1, 0, none⟩ (.func (.func 63) #[] #[.pointer (some ⟨W.heap.size, 0, none⟩), .pointer (some ⟨W.heap.size + 1, 0, none⟩)]) = W2 := by
    rw [← hW2]; exact World.setCell_alloc_at _ _ _ _ _ hs1.symm
  have HS := Lib.hid hset
  clear hset hwalk hY hJ hJx hin hJ2
  refine callsIn_wide.2 ?_
  show Calls Tryd.prog 62 #[.func (.yield l) #[] #[], .pointer (some ⟨cb, 0, none⟩)] W _
  go_enter Tryd.func62, Tryd.ntmps62
  go_wp2_with fail
  refine HC.out.mono ?_
  rintro e w' (⟨rfl, q, hq, hJq, _⟩ | ⟨rfl, q, hq, hJq⟩)
  · go_wp2_with fail
    go_end0
    exact ⟨⟨_, rfl⟩, .inl ⟨q, hq, by simpa using hJq⟩⟩
  · go_wp2_with fail
    go_end0
    exact ⟨⟨_, rfl⟩, .inr ⟨q, hq, by simpa using hJq⟩⟩

/-- 'core.all(c)' -/
theorem all_any (v : Array Value) {c0 c1 c2 c3 : Value} (hv : v = #[c0, c1, c2, c3]) (w : World) :
    Calls Tryd.prog 34 #[.agg v] w fun e w' => e = .returned (.func (.func 62) #[] #[.pointer (some ⟨w.heap.size, 0, none⟩)]) ∧ w' = w.alloc (.cells #[c0, c1, c2, c3] 26) := by
  subst hv
  go_enter Tryd.func34, Tryd.ntmps34
  go_wp2_with fail
  go_ret
  exact ⟨rfl, rfl⟩

end Go.Proofs.YtnolhcdfknjncaaDoor

/-
  core.Right: what is wrong first with a core term.
-/
set_option linter.unusedVariables false
set_option linter.unusedSimpArgs false
namespace Go.Proofs.YtnolhcdfknjncaaDoor
open Go.RowKit Go.Shelf

attribute [local go_sem] Oper.semAt_some

/-- the first error of nodes, so many standing ahead of them -/
def firstE (ahead : Int) : List (Int × Core) → Int
  | [] => 0
  | x :: l => if nodeE ahead x.1 x.2.k x.2.n x.2.ks x.2.cs.length ≠ 0 then nodeE ahead x.1 x.2.k x.2.n x.2.ks x.2.cs.length else firstE (ahead + 1) l
def rightE (t : Core) : Int := firstE 0 (nodesL 1 t)

theorem firstE_snoc (l : List (Int × Core)) (x : Int × Core) (a : Int) (h : firstE a l = 0) : firstE a (l ++ [x]) = nodeE (a + l.length) x.1 x.2.k x.2.n x.2.ks x.2.cs.length := by
  induction l generalizing a with
  | nil => simp [firstE]; intro h; exact h.symm
  | cons y l ih =>
    simp only [firstE, List.cons_append, List.length_cons] at h ⊢
    by_cases hy : nodeE a y.1 y.2.k y.2.n y.2.ks y.2.cs.length = 0
    · rw [if_neg (by simp [hy])] at h ⊢
      rw [ih _ h]; congr 1; push_cast; omega
    · rw [if_pos hy] at h; exact absurd h hy
theorem firstE_prefix {l m : List (Int × Core)} (h : l <+: m) {a : Int} (hl : firstE a l ≠ 0) : firstE a m = firstE a l := by
  obtain ⟨r, rfl⟩ := h
  induction l generalizing a with
  | nil => simp [firstE] at hl
  | cons y l ih =>
    simp only [firstE, List.cons_append] at hl ⊢
    by_cases hy : nodeE a y.1 y.2.k y.2.n y.2.ks y.2.cs.length = 0
    · rw [if_neg (by simp [hy])] at hl ⊢
      rw [if_neg (by simp [hy]), ih hl]
    · rw [if_pos hy, if_pos hy]
theorem firstE_le (l : List (Int × Core)) (a : Int) (ha : 0 ≤ a ∧ a ≤ 65536) (h : firstE a l = 0) : a + l.length ≤ 65536 := by
  induction l generalizing a with
  | nil => simp; omega
  | cons y l ih =>
    simp only [firstE, List.length_cons] at h ⊢
    by_cases hy : nodeE a y.1 y.2.k y.2.n y.2.ks y.2.cs.length = 0
    · rw [if_neg (by simp [hy])] at h
      have ha' : a < 65536 := by
        rcases Int.lt_or_le a 65536 with h' | h'
        · exact h'
        · unfold nodeE at hy; rw [if_pos h'] at hy; simp at hy
      have := ih (a + 1) (by omega) h
      push_cast at this ⊢; omega
    · rw [if_pos hy] at h; exact absurd h hy

theorem keepsOthers_of_below {W W' : World} (h : Below W.heap.size W W') : KeepsOthers W W' := ⟨h.size, fun k o hk _ => (h.block k (Array.getElem?_eq_some_iff.1 hk).1).trans hk⟩

theorem boxed_below {W W' : World} {B : Nat} {t : TypeId} {v : Value} (h : Boxed W B t v) (hb : Below W.heap.size W W') : Boxed W' B t v := (hb.block B h.lt).trans h

set_option maxRecDepth 100000 in
set_option maxHeartbeats 2000000 in
theorem right_any {B : Nat} {t : Core} {v : Array Value} (w : World) (hin : CoreIn B w t v) (hB : B ≤ w.heap.size) (hg : 0 < B) (ht : TabIn w) (hh : 1 + (t.hgt : Int) ≤ 60000) :
    Calls Tryd.prog 23 #[.agg v] w fun e w' => e = .returned (.int .i64 (rightE t)) ∧ Below w.heap.size w w' := by
  obtain ⟨k, n, ks, cs, Ak, ck, Ac, cc, b, o, G0, G1, G2, G3, -, rfl, -⟩ := hin.open_
  refine (callsIn_wide (n := 3)).1 ?_
  refine callsIn_of_wp_marks Tryd.func23 rfl trivial ?_ rfl
  simp only [Tryd.ntmps23, List.size_toArray, List.length_cons, List.length_nil, Nat.reduceAdd, Nat.reduceSub, Array.replicate_succ, Array.replicate_zero, List.push_toArray, List.append_toArray, List.nil_append, List.cons_append]
  gi_wp2_with (refine ⟨trivial, ?_⟩; gi_at_call 34; refine (callsIn_wide.2 (all_any _ rfl _)).mono ?_; rintro e w' ⟨rfl, rfl⟩)
  obtain ⟨WL, hWL⟩ : ∃ WL, ((((w.alloc (Obj.cells #[Value.int IntKind.i64 k, Value.int IntKind.i64 n, Value.slice Ak ks.length ck, Value.slice Ac cs.length cc] 26)).alloc (Obj.cells #[Value.int IntKind.i64 0] 39)).alloc (Obj.cells #[Value.int IntKind.i64 0] 3)).alloc
      (Obj.cells #[Value.int IntKind.i64 k, Value.int IntKind.i64 n, Value.slice Ak ks.length ck, Value.slice Ac cs.length cc] 26)) = WL := ⟨_, rfl⟩
  have hsz : WL.heap.size = w.heap.size + 4 := by rw [← hWL]; simp
  have hbL : Below w.heap.size w WL := by rw [← hWL]; exact ((((Below.refl _ w).alloc (by simp) _).alloc (by simp) _).alloc (by simp <;> omega) _).alloc (by simp <;> omega) _
  have bn : Boxed WL (w.heap.size + 2) 3 (.int .i64 0) := by
    rw [← hWL]; refine Boxed.alloc ?_ _
    have := Boxed.new ((w.alloc (Obj.cells #[Value.int IntKind.i64 k, Value.int IntKind.i64 n, Value.slice Ak ks.length ck, Value.slice Ac cs.length cc] 26)).alloc (Obj.cells #[Value.int IntKind.i64 0] 39)) 3 (.int .i64 0)
    simpa using this
  have br : Boxed WL (w.heap.size + 1) 39 (.int .i64 0) := by
    rw [← hWL]; exact (Boxed.alloc (by have := Boxed.new (w.alloc (Obj.cells #[Value.int IntKind.i64 k, Value.int IntKind.i64 n, Value.slice Ak ks.length ck, Value.slice Ac cs.length cc] 26)) 39 (.int .i64 0); simpa using this) _).alloc _
  have e0 : WL.cell? ⟨w.heap.size + 3, 0, none⟩ = some (.int .i64 k) := by rw [← hWL, World.cell?_alloc_at _ _ _ _ (by simp)]; rfl
  have e1 : WL.cell? ⟨w.heap.size + 3, 1, none⟩ = some (.int .i64 n) := by rw [← hWL, World.cell?_alloc_at _ _ _ _ (by simp)]; rfl
  have e2 : WL.cell? ⟨w.heap.size + 3, 2, none⟩ = some (.slice Ak ks.length ck) := by rw [← hWL, World.cell?_alloc_at _ _ _ _ (by simp)]; rfl
  have e3 : WL.cell? ⟨w.heap.size + 3, 3, none⟩ = some (.slice Ac cs.length cc) := by rw [← hWL, World.cell?_alloc_at _ _ _ _ (by simp)]; rfl
  rw [hWL]
  clear hWL
  refine wpIn_rangeFunc_ownH rfl (by omega) (gf := 62) (lb := #[.pointer (some ⟨w.heap.size + 3, 0, none⟩)]) rfl trivial enters_all1
    (all_stops hin hh (fun b => b = w.heap.size + 1 ∨ b = w.heap.size + 2) (w.heap.size + 3) WL (by omega) (by omega) (Stay.of_below (hbL.mono hB)) rfl (by omega) e0 e1 e2 e3 2)
    KpX.trans (fun W l o o' _ h ho _ => KpX.putObj W l o o' h ho) (Below.refl _ _) (fun _ => rfl)
    (fun pre W => ((Boxed W (w.heap.size + 2) 3 (.int .i64 (pre.length : Int)) ∧ Boxed W (w.heap.size + 1) 39 (.int .i64 0)) ∧ firstE 0 (projX pre) = 0) ∧ Below w.heap.size w W)
    (fun c pre W => (c = .ret ∧ Boxed W (w.heap.size + 1) 39 (.int .i64 (firstE 0 (projX pre))) ∧ firstE 0 (projX pre) ≠ 0) ∧ Below w.heap.size w W)
    (OwnFrom.and (OwnFrom.and (OwnFrom.and (Own.from (boxed_own _ _ _) _) (Own.from (boxed_own _ _ _) _)) (ownFrom_pure _ _)) (ownFrom_below (Nat.le_refl _) (by omega)))
    (fun c => OwnFrom.and (OwnFrom.and (ownFrom_pure _ _) (OwnFrom.and (Own.from (boxed_own _ _ _) _) (ownFrom_pure _ _))) (ownFrom_below (Nat.le_refl _) (by omega)))
    ⟨⟨⟨bn, br⟩, rfl⟩, hbL⟩
    (fun x a' W => ∃ Bx : Nat, W.heap[Bx]? = some (.cells x.v 26 (0, 0)) ∧ a' = { tmps := #[.agg #[Value.int IntKind.i64 k, Value.int IntKind.i64 n, Value.slice Ak ks.length ck, Value.slice Ac cs.length cc], .pointer (some ⟨w.heap.size, 0, none⟩), .pointer (some ⟨w.heap.size + 1, 0, none⟩), .pointer (some ⟨w.heap.size + 1 + 1, 0, none⟩), .int .i64 x.d, .pointer (some ⟨Bx, 0, none⟩), undef,
        .agg #[Value.int IntKind.i64 k, Value.int IntKind.i64 n, Value.slice Ak ks.length ck, Value.slice Ac cs.length cc], .func (.func 62) #[] #[.pointer (some ⟨w.heap.size + 1 + 1 + 1, 0, none⟩)], .int .i64 x.d, .agg x.v, undef, undef, undef, undef, undef, undef, undef, undef, undef], defers := [] })
    (fun x a' u A C row ⟨Bx, h2, h3⟩ hgr hr => ⟨Bx, (hgr.block Bx (Array.getElem?_eq_some_iff.1 h2).1 (fun e => by obtain ⟨_, o, ho, hc⟩ := hr Bx e.symm; rw [h2] at ho; cases ho; cases hc)).trans h2, h3⟩)
    ?assign ?body ?done ?stop
  case assign =>
    rintro l pre ⟨d, t', v', hin', hd'⟩ W K ⟨⟨⟨bn', br'⟩, hf⟩, hbW⟩ hK
    obtain ⟨k', n', ks', cs', Ak', ck', Ac', cc', b', o', G0', G1', G2', G3', rfl, rfl, -⟩ := hin'.open_
    gi_wp2
    exact hK _ _ ((KeepsOthers.alloc _ _).from _) (KpX.alloc _ _ _) ⟨⟨⟨bn'.alloc _, br'.alloc _⟩, hf⟩, hbW.alloc hbW.size _⟩ ⟨W.heap.size, World.alloc_heap_new W _, rfl⟩
  case body =>
    rintro l pre ⟨d, t', v', hin', hd'⟩ a' W hl hr ⟨⟨⟨bn', br'⟩, hf⟩, hbW⟩ ⟨Bx, hx, rfl⟩ hlen
    obtain ⟨k', n', ks', cs', Ak', ck', Ac', cc', b', o', G0', G1', G2', G3', rfl, rfl, hks', hck', hcc', hkids'⟩ := hin'.open_
    dsimp only at hx ⊢
    have x0 : W.cell? ⟨Bx, 0, none⟩ = some (.int .i64 k') := by simp [World.cell?, hx]
    have x1 : W.cell? ⟨Bx, 1, none⟩ = some (.int .i64 n') := by simp [World.cell?, hx]
    have x2 : W.cell? ⟨Bx, 2, none⟩ = some (.slice Ak' ks'.length ck') := by simp [World.cell?, hx]
    have x3 : W.cell? ⟨Bx, 3, none⟩ = some (.slice Ac' cs'.length cc') := by simp [World.cell?, hx]
    have hws := hbW.size
    have hle := firstE_le (projX pre) 0 (by omega) hf
    rw [projX_length] at hle
    have hst : Stay B w W := Stay.of_below (hbW.mono hB)
    have hnode := node_any (pre.length : Int) d k' n' Ak' Ac' ck' cs'.length cc' ks' B W (ht.kept hg (hbW.mono hB)) (by omega) (hks'.stay hst) (by omega) hck' (by have := hkids'.hcl; omega)
    have hsn := firstE_snoc (projX pre) (d, .mk k' n' ks' cs') 0 hf
    have hpr : projX (pre ++ [(⟨d, .mk k' n' ks' cs', _, hin', hd'⟩ : NodeX B w)]) = projX pre ++ [(d, .mk k' n' ks' cs')] := by simp [projX]
    rw [← hpr] at hsn
    simp only [projX_length, Core.k, Core.n, Core.ks, Core.cs, Int.zero_add] at hsn
    obtain ⟨e0, he0⟩ : ∃ e0, nodeE (pre.length : Int) d k' n' ks' cs'.length = e0 := ⟨_, rfl⟩
    rw [he0] at hnode hsn
    obtain ⟨NP, hNP⟩ : ∃ NP : List (NodeX B w), NP = pre ++ [(⟨d, .mk k' n' ks' cs', _, hin', hd'⟩ : NodeX B w)] := ⟨_, rfl⟩
    rw [← hNP] at hsn ⊢
    have hNl : (NP.length : Int) = pre.length + 1 := by rw [hNP]; simp
    have HS := Lib.hid hsn
    have HL := Lib.hid hNl
    have HN := Lib.hid hnode
    have r1 := bn'.cell
    have r2 := bn'.frozen
    have r3 := br'.cell
    have r4 := br'.frozen
    have hcells : ∀ W1, Below W.heap.size W W1 → W1.cell? ⟨w.heap.size + 1 + 1, 0, none⟩ = some (.int .i64 (pre.length : Int)) ∧ W1.frozen? ⟨w.heap.size + 1 + 1, 0, none⟩ = false ∧ W1.cell? ⟨w.heap.size + 1, 0, none⟩ = some (.int .i64 0) ∧ W1.frozen? ⟨w.heap.size + 1, 0, none⟩ = false :=
      fun W1 hb1 => ⟨(hb1.cell (p := ⟨_, _, none⟩) (by show _ + 1 + 1 < _; have := bn'.lt; omega)).trans r1, (hb1.frozen (p := ⟨_, _, none⟩) (by show _ + 1 + 1 < _; have := bn'.lt; omega)).trans r2, (hb1.cell (p := ⟨_, _, none⟩) (by show _ + 1 < _; have := br'.lt; omega)).trans r3, (hb1.frozen (p := ⟨_, _, none⟩) (by show _ + 1 < _; have := br'.lt; omega)).trans r4⟩
    have HC := Lib.hid hcells
    clear hsn hNl hnode hf he0 hpr hcells
    by_cases hz : e0 = 0
    · subst hz
      gi_wp2_with (refine ⟨trivial, ?_⟩; gi_at_call 35; refine (CallsIn.inRound l (callsIn_wide.2 HN.out)).mono ?_; rintro e W1 ⟨rfl, hb1⟩; obtain ⟨q1, q2, q3, q4⟩ := HC.out W1 hb1)
      have b1 := (boxed_below bn' hb1).set (.int .i64 ((pre.length : Int) + 1))
      have b2 := (boxed_below br' hb1).other (B' := w.heap.size + 2) (by omega) (.int .i64 ((pre.length : Int) + 1))
      exact ⟨((keepsOthers_of_below hb1).trans (KeepsOthers.setCell _ _ _)).from _, (KpX.below hb1).trans (KpX.setCell _ 0 _ (.inr rfl)), ⟨⟨by rw [HL.out]; exact b1, b2⟩, HS.out⟩, (below_then hbW hws hb1).setCell (p := ⟨_, _, none⟩) (by show _ ≤ _ + 1 + 1; omega) _⟩
    · have hz' : (e0 == 0) = false := by simpa using hz
      have hz'' : (e0 != 0) = true := by simpa using hz
      gi_wp2_with (refine ⟨trivial, ?_⟩; gi_at_call 35; refine (CallsIn.inRound l (callsIn_wide.2 HN.out)).mono ?_; rintro e W1 ⟨rfl, hb1⟩; obtain ⟨q1, q2, q3, q4⟩ := HC.out W1 hb1)
      have b2 := (boxed_below br' hb1).set (.int .i64 e0)
      exact ⟨((keepsOthers_of_below hb1).trans (KeepsOthers.setCell _ _ _)).from _, ⟨rfl, by rw [HS.out]; exact b2, by rw [HS.out]; exact hz⟩, (below_then hbW hws hb1).setCell (p := ⟨_, _, none⟩) (by show _ ≤ _ + 1; omega) _⟩
  case done =>
    rintro D xs W hD hS ⟨⟨⟨bn', br'⟩, hf⟩, hbW⟩ hK
    have r1 := br'.cell
    have r2 := br'.frozen
    have hsz' := hbW.size
    have HF := Lib.hid hf
    have HS := Lib.hid hS
    clear hf hS
    gi_wp2
    have hK2 := (KeepsOthers.setCell W ⟨w.heap.size + 1, 0, none⟩ (.int .i64 0)).same D _ hK rfl
    refine ⟨by simp, .inl ⟨_, _, rfl, run_takeDeferred hK2, ?_⟩⟩
    have br2 := (br'.set (.int .i64 0)).kept (grownBy_putObj' _ D (.deferred none)) (by intro e; cases e; omega)
    have c2 := br2.cell
    refine ⟨.int .i64 0, by simp [results, Tryd.results23, go_sem, c2], ret_int ?_, ?_⟩
    · unfold rightE; rw [← HS.out]; exact HF.out.symm
    · exact (hbW.setCell (p := ⟨_, _, none⟩) (by show _ ≤ _ + 1; omega) _).trans (belowK_b (w := w) (Nat.le_refl _) _ D _ _ (by omega) hK2 rfl rfl)
  case stop =>
    rintro D c pre W hD hS ⟨⟨rfl, br', hf⟩, hbW⟩ hK
    have r1 := br'.cell
    have HF := Lib.hid hf
    have HS := Lib.hid hS
    clear hf hS
    gi_wp2
    refine ⟨by simp, .inl ⟨_, _, rfl, run_takeDeferred hK, ?_⟩⟩
    have br2 := br'.kept (grownBy_putObj' W D (.deferred none)) (by intro e; cases e; omega)
    have c2 := br2.cell
    refine ⟨.int .i64 (firstE 0 (projX pre)), by simp [results, Tryd.results23, go_sem, c2], ret_int ?_, ?_⟩
    · unfold rightE; exact (firstE_prefix HS.out HF.out).symm
    · exact hbW.trans (belowK_b (w := w) (Nat.le_refl _) W D _ _ (by omega) hK rfl rfl)

end Go.Proofs.YtnolhcdfknjncaaDoor
