/-
  What is wrong with one node of a core term: the contracts of core.within, num.Wrap, slices.Index, slices.Contains, core.evens, core.number, core.counts, core.keys, core.node.
-/
import Derived.Test.YtnolhcdfknjncaaDoorA
set_option linter.unusedVariables false
set_option linter.unusedSimpArgs false
namespace Go.Proofs.YtnolhcdfknjncaaDoor
open Go.RowKit

theorem within_any (n a b : Int) (w : World) :
    Calls Tryd.prog 83 #[.int .i64 n, .int .i64 a, .int .i64 b] w fun e w' => e = .returned (.bool (decide (a ≤ n) && decide (n ≤ b))) ∧ w = w' := by
  by_cases h : a ≤ n
  · go_enter Tryd.func83, Tryd.ntmps83
    go_wp2
    go_ret
    simp [h]
  · go_enter Tryd.func83, Tryd.ntmps83
    go_wp2
    go_ret
    simp [h]; omega
theorem within_q (n a b : Int) (w : World) :
    Calls Tryd.prog 83 #[.int .i64 n, .int .i64 a, .int .i64 b] w fun e w' => e = .returned (.bool (decide (a ≤ n) && decide (n ≤ b))) ∧ w' = w := (within_any n a b w).mono fun _ _ h => ⟨h.1, h.2.symm⟩

theorem wrap_any (n : Int) (w : World) :
    Calls Tryd.prog 70 #[.int .i64 n] w fun e w' => e = .returned (.int .i64 (wrap31 n)) ∧ w = w' := by
  go_enter Tryd.func70, Tryd.ntmps70
  go_wp2
  go_ret
  exact ⟨ret_int (wrap31_eq n), rfl⟩
theorem wrap_q (n : Int) (w : World) :
    Calls Tryd.prog 70 #[.int .i64 n] w fun e w' => e = .returned (.int .i64 (wrap31 n)) ∧ w' = w := (wrap_any n w).mono fun _ _ h => ⟨h.1, h.2.symm⟩

/-! ### number -/
/-- what is wrong with a node's N -/
def numE (k n : Int) : Int :=
  if k = 10 then (if 1 ≤ n ∧ n ≤ 16 then 0 else 28)
  else if (if k = 1 ∨ k = 3 ∨ k = 5 then decide (0 ≤ n ∧ n ≤ 65535) else if k = 2 then decide (wrap31 n = n) else if k = 7 then decide (0 ≤ n ∧ n ≤ 1023) else if k = 8 then decide (0 ≤ n ∧ n ≤ 7) else decide (n = 0)) = true then 0 else 2

theorem number_2 (n : Int) (ks cs : Value) (w : World) :
    Calls Tryd.prog 66 #[.agg #[.int .i64 2, .int .i64 n, ks, cs]] w fun e w' => e = .returned (.int .i64 (numE 2 n)) ∧ Below w.heap.size w w' := by
  go_enter Tryd.func66, Tryd.ntmps66
  go_wp2_with fail
  go_quiet ((go_at_call 70; exact Calls.quiet_of_same (wrap_q _ _)))
  go_wp2_with fail
  all_goals
    go_ret
    rename_i h
    exact ⟨ret_int (by simp at h; simp [numE, h]), below_drewN ((Below.refl _ _).alloc (Nat.le_refl _) _) _⟩

theorem number_not2 (k n : Int) (ks cs : Value) (w : World) (hk : k ≠ 2) :
    Calls Tryd.prog 66 #[.agg #[.int .i64 k, .int .i64 n, ks, cs]] w fun e w' => e = .returned (.int .i64 (numE k n)) ∧ Below w.heap.size w w' := by
  have hk2 : (k == 2) = false := by simpa using hk
  go_enter Tryd.func66, Tryd.ntmps66
  go_wp2_with (first | (go_at_call 83; refine (within_any _ _ _ _).mono ?_; rintro e w' ⟨rfl, rfl⟩) | (go_at_call 70; refine (wrap_any _ _).mono ?_; rintro e w' ⟨rfl, rfl⟩))
  all_goals
    go_ret
    exact ⟨ret_int (by simp_all [numE] <;> omega), ((Below.refl _ _).alloc (Nat.le_refl _) _)⟩

theorem number_any (k n : Int) (ks cs : Value) (w : World) :
    Calls Tryd.prog 66 #[.agg #[.int .i64 k, .int .i64 n, ks, cs]] w fun e w' => e = .returned (.int .i64 (numE k n)) ∧ Below w.heap.size w w' := by
  by_cases hk : k = 2
  · subst hk; exact number_2 n ks cs w
  · exact number_not2 k n ks cs w hk

/-! ### counts -/
/-- the table of Kids in memory -/
def kidsL : List Int := [0, 0, 0, 1, 2, 2, -1, -1, 1, -1, -1]
def TabIn (w : World) : Prop := ∀ i, i < 11 → w.cell? ⟨0, i, none⟩ = some (.int .i64 (kidsL[i]?.getD 0))
theorem TabIn.kept {B : Nat} (hB : 0 < B) {w w' : World} (h : TabIn w) (hb : Below B w w') : TabIn w' := fun i hi => (hb.cell (p := ⟨_, i, none⟩) hB).trans (h i hi)

def two (n : Int) : Bool := decide (n ≤ 9 ∨ n = 12 ∨ n = 16)
def cntB (k n : Int) (nk nc : Nat) : Bool :=
  if k = 6 then decide (2 ≤ nk ∧ nk % 2 = 0 ∧ nc = nk / 2 + 1)
  else if k = 9 then decide (nc = nk + 2)
  else if k = 7 then decide (nk = 0 ∧ 1 ≤ nc ∧ nc ≤ 8)
  else if k = 10 then decide (nk = 0 ∧ nc = if two n then 2 else 1)
  else decide (nk = 0 ∧ (nc : Int) = kidsL[k.toNat]?.getD 0)

theorem counts_tab (k n : Int) (Ak Ac : Option Addr) (nk ck nc cc : Nat) (w : World) (ht : TabIn w) (hg : 0 < w.heap.size) (h1 : 1 ≤ k) (h2 : k ≤ 10) (h6 : k ≠ 6) (h9 : k ≠ 9) (h7 : k ≠ 7) (h10 : k ≠ 10) :
    Calls Tryd.prog 67 #[.agg #[.int .i64 k, .int .i64 n, .slice Ak nk ck, .slice Ac nc cc]] w fun e w' => e = .returned (.bool (cntB k n nk nc)) ∧ Below w.heap.size w w' := by
  have e6 : (k == 6) = false := by simpa using h6
  have e9 : (k == 9) = false := by simpa using h9
  have e7 : (k == 7) = false := by simpa using h7
  have e10 : (k == 10) = false := by simpa using h10
  have htab := ht k.toNat (by omega)
  have hk11 : k < 11 := by omega
  have hk0 : 0 ≤ k := by omega
  by_cases hnk : nk = 0
  · subst hnk
    go_enter Tryd.func67, Tryd.ntmps67
    go_wp2_with fail
    go_quiet (fail)
    go_wp2_with fail
    go_ret
    exact ⟨ret_bool (by simp [cntB, h6, h9, h7, h10]; rw [Bool.eq_iff_iff]; simp), below_drewN ((Below.refl _ _).alloc (Nat.le_refl _) _) _⟩
  · have hnk' : ((nk : Int) == 0) = false := by simpa using hnk
    go_enter Tryd.func67, Tryd.ntmps67
    go_wp2_with fail
    go_quiet (fail)
    go_wp2_with fail
    go_ret
    exact ⟨ret_bool (by simp [cntB, h6, h9, h7, h10, hnk]), below_drewN ((Below.refl _ _).alloc (Nat.le_refl _) _) _⟩

theorem counts_rest (k n : Int) (Ak Ac : Option Addr) (nk ck nc cc : Nat) (w : World) (hn1 : nk ≤ 9000000000000000000) (hn2 : nc ≤ 9000000000000000000) (hk : k = 6 ∨ k = 9 ∨ k = 7 ∨ k = 10) :
    Calls Tryd.prog 67 #[.agg #[.int .i64 k, .int .i64 n, .slice Ak nk ck, .slice Ac nc cc]] w fun e w' => e = .returned (.bool (cntB k n nk nc)) ∧ Below w.heap.size w w' := by
  rcases hk with rfl | rfl | rfl | rfl
  all_goals
    go_enter Tryd.func67, Tryd.ntmps67
    go_wp2_with (first | (go_at_call 83; refine (within_any _ _ _ _).mono ?_; rintro e w' ⟨rfl, rfl⟩))
    all_goals
      go_ret
      refine ⟨ret_bool ?_, (Below.refl _ _).alloc (Nat.le_refl _) _⟩
      rw [Bool.eq_iff_iff]
      simp_all [cntB, two] <;> (try split) <;> omega

end Go.Proofs.YtnolhcdfknjncaaDoor
