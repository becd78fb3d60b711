/-
  10 texts of this seat in one: D4 D5 D6 D7 D8 D9 D10 H6 H7 H8.
-/
import Derived.Test.YtnobggabjpcbfaaQF2
import Derived.WalkMore
import Derived.BigRegion
/-
  clos: count.
-/
set_option linter.unusedVariables false
set_option linter.unusedSimpArgs false
namespace Go.Proofs.Ytnobggabjpcbfaa
open Go.RowKit

theorem nat_eq_bool (a b : Nat) : ((a : Int) == (b : Int)) = (a == b) := by rw [Bool.eq_iff_iff]; simp; omega
section
variable (x n : Int) (Aa Ak Al : Option Addr) (na ca ck nb cb : Nat) (ks : List Int) (w : World)
set_option maxRecDepth 100000 in
set_option maxHeartbeats 1000000 in
theorem count_app : Calls Try.prog 60 #[.agg #[.int .i64 x, .int .i64 6, .int .i64 n, .slice Aa na ca, .slice Ak ks.length ck, .slice Al nb cb]] w fun e w' => e = .returned (.bool (countB x 6 n na ks nb)) ∧ Below w.heap.size w w' := by
  obtain ⟨W0, hW0⟩ : ∃ W0, w.alloc (.cells #[.int .i64 x, .int .i64 6, .int .i64 n, .slice Aa na ca, .slice Ak ks.length ck, .slice Al nb cb] 54) = W0 := ⟨_, rfl⟩
  have hb0 : Below w.heap.size w W0 := by rw [← hW0]; exact (Below.refl _ _).alloc (Nat.le_refl _) _
  have hs0 : w.heap.size < W0.heap.size := by rw [← hW0]; simp
  obtain ⟨W1, hW1⟩ : ∃ W1, W0.alloc (.cells #[.int .i64 6, .int .i64 n, .slice Aa na ca, .slice Ak ks.length ck, .slice Al nb cb] 52) = W1 := ⟨_, rfl⟩
  have hb1 : Below W0.heap.size W0 W1 := by rw [← hW1]; exact (Below.refl _ _).alloc (Nat.le_refl _) _
  have d0 : W0.cell? ⟨w.heap.size, 0, none⟩ = some (.int .i64 x) := by rw [← hW0, World.cell?_alloc_at _ _ _ _ rfl]; rfl
  have d1 : W0.cell? ⟨w.heap.size, 1, none⟩ = some (.int .i64 6) := by rw [← hW0, World.cell?_alloc_at _ _ _ _ rfl]; rfl
  have d2 : W0.cell? ⟨w.heap.size, 2, none⟩ = some (.int .i64 n) := by rw [← hW0, World.cell?_alloc_at _ _ _ _ rfl]; rfl
  have d3 : W0.cell? ⟨w.heap.size, 3, none⟩ = some (.slice Aa na ca) := by rw [← hW0, World.cell?_alloc_at _ _ _ _ rfl]; rfl
  have d4 : W0.cell? ⟨w.heap.size, 4, none⟩ = some (.slice Ak ks.length ck) := by rw [← hW0, World.cell?_alloc_at _ _ _ _ rfl]; rfl
  have d5 : W0.cell? ⟨w.heap.size, 5, none⟩ = some (.slice Al nb cb) := by rw [← hW0, World.cell?_alloc_at _ _ _ _ rfl]; rfl
  have hR : RhsAt W0 W1 W0.heap.size 6 n Aa Ak Al na ca ks.length ck nb cb := by rw [← hW1]; exact RhsAt.new _ _ _ _ _ _ _ _ _ _ _ _
  obtain ⟨c0, c1, c2, c3, c4, cl⟩ := hR
  have g0 : W1.cell? ⟨w.heap.size, 0, none⟩ = some (.int .i64 x) := (hb1.cell (p := ⟨w.heap.size, 0, none⟩) hs0).trans d0
  have HB := Lib.hid (hb0.trans (hb1.mono hb0.size))
  clear hb0 hb1
  go_enter Try.func60, Try.ntmps60
  go_wp2_with (go_at_call 43; refine (within_any _ _ _ _).mono ?_; rintro en w' ⟨rfl, rfl⟩)
  go_ret
  exact ⟨ret_bool (by have := nat_eq_bool na 2; simpa [countB] using this), HB.out⟩
set_option maxRecDepth 100000 in
set_option maxHeartbeats 1000000 in
theorem count_block : Calls Try.prog 60 #[.agg #[.int .i64 x, .int .i64 3, .int .i64 n, .slice Aa na ca, .slice Ak ks.length ck, .slice Al nb cb]] w fun e w' => e = .returned (.bool (countB x 3 n na ks nb)) ∧ Below w.heap.size w w' := by
  obtain ⟨W0, hW0⟩ : ∃ W0, w.alloc (.cells #[.int .i64 x, .int .i64 3, .int .i64 n, .slice Aa na ca, .slice Ak ks.length ck, .slice Al nb cb] 54) = W0 := ⟨_, rfl⟩
  have hb0 : Below w.heap.size w W0 := by rw [← hW0]; exact (Below.refl _ _).alloc (Nat.le_refl _) _
  have hs0 : w.heap.size < W0.heap.size := by rw [← hW0]; simp
  obtain ⟨W1, hW1⟩ : ∃ W1, W0.alloc (.cells #[.int .i64 3, .int .i64 n, .slice Aa na ca, .slice Ak ks.length ck, .slice Al nb cb] 52) = W1 := ⟨_, rfl⟩
  have hb1 : Below W0.heap.size W0 W1 := by rw [← hW1]; exact (Below.refl _ _).alloc (Nat.le_refl _) _
  have d0 : W0.cell? ⟨w.heap.size, 0, none⟩ = some (.int .i64 x) := by rw [← hW0, World.cell?_alloc_at _ _ _ _ rfl]; rfl
  have d1 : W0.cell? ⟨w.heap.size, 1, none⟩ = some (.int .i64 3) := by rw [← hW0, World.cell?_alloc_at _ _ _ _ rfl]; rfl
  have d2 : W0.cell? ⟨w.heap.size, 2, none⟩ = some (.int .i64 n) := by rw [← hW0, World.cell?_alloc_at _ _ _ _ rfl]; rfl
  have d3 : W0.cell? ⟨w.heap.size, 3, none⟩ = some (.slice Aa na ca) := by rw [← hW0, World.cell?_alloc_at _ _ _ _ rfl]; rfl
  have d4 : W0.cell? ⟨w.heap.size, 4, none⟩ = some (.slice Ak ks.length ck) := by rw [← hW0, World.cell?_alloc_at _ _ _ _ rfl]; rfl
  have d5 : W0.cell? ⟨w.heap.size, 5, none⟩ = some (.slice Al nb cb) := by rw [← hW0, World.cell?_alloc_at _ _ _ _ rfl]; rfl
  have hR : RhsAt W0 W1 W0.heap.size 3 n Aa Ak Al na ca ks.length ck nb cb := by rw [← hW1]; exact RhsAt.new _ _ _ _ _ _ _ _ _ _ _ _
  obtain ⟨c0, c1, c2, c3, c4, cl⟩ := hR
  have g0 : W1.cell? ⟨w.heap.size, 0, none⟩ = some (.int .i64 x) := (hb1.cell (p := ⟨w.heap.size, 0, none⟩) hs0).trans d0
  have HB := Lib.hid (hb0.trans (hb1.mono hb0.size))
  clear hb0 hb1
  go_enter Try.func60, Try.ntmps60
  go_wp2_with (go_at_call 43; refine (within_any _ _ _ _).mono ?_; rintro en w' ⟨rfl, rfl⟩)
  go_ret
  exact ⟨ret_bool (by simp [countB]), HB.out⟩
set_option maxRecDepth 100000 in
set_option maxHeartbeats 1000000 in
theorem count_close : Calls Try.prog 60 #[.agg #[.int .i64 x, .int .i64 9, .int .i64 n, .slice Aa na ca, .slice Ak ks.length ck, .slice Al nb cb]] w fun e w' => e = .returned (.bool (countB x 9 n na ks nb)) ∧ Below w.heap.size w w' := by
  obtain ⟨W0, hW0⟩ : ∃ W0, w.alloc (.cells #[.int .i64 x, .int .i64 9, .int .i64 n, .slice Aa na ca, .slice Ak ks.length ck, .slice Al nb cb] 54) = W0 := ⟨_, rfl⟩
  have hb0 : Below w.heap.size w W0 := by rw [← hW0]; exact (Below.refl _ _).alloc (Nat.le_refl _) _
  have hs0 : w.heap.size < W0.heap.size := by rw [← hW0]; simp
  obtain ⟨W1, hW1⟩ : ∃ W1, W0.alloc (.cells #[.int .i64 9, .int .i64 n, .slice Aa na ca, .slice Ak ks.length ck, .slice Al nb cb] 52) = W1 := ⟨_, rfl⟩
  have hb1 : Below W0.heap.size W0 W1 := by rw [← hW1]; exact (Below.refl _ _).alloc (Nat.le_refl _) _
  have d0 : W0.cell? ⟨w.heap.size, 0, none⟩ = some (.int .i64 x) := by rw [← hW0, World.cell?_alloc_at _ _ _ _ rfl]; rfl
  have d1 : W0.cell? ⟨w.heap.size, 1, none⟩ = some (.int .i64 9) := by rw [← hW0, World.cell?_alloc_at _ _ _ _ rfl]; rfl
  have d2 : W0.cell? ⟨w.heap.size, 2, none⟩ = some (.int .i64 n) := by rw [← hW0, World.cell?_alloc_at _ _ _ _ rfl]; rfl
  have d3 : W0.cell? ⟨w.heap.size, 3, none⟩ = some (.slice Aa na ca) := by rw [← hW0, World.cell?_alloc_at _ _ _ _ rfl]; rfl
  have d4 : W0.cell? ⟨w.heap.size, 4, none⟩ = some (.slice Ak ks.length ck) := by rw [← hW0, World.cell?_alloc_at _ _ _ _ rfl]; rfl
  have d5 : W0.cell? ⟨w.heap.size, 5, none⟩ = some (.slice Al nb cb) := by rw [← hW0, World.cell?_alloc_at _ _ _ _ rfl]; rfl
  have hR : RhsAt W0 W1 W0.heap.size 9 n Aa Ak Al na ca ks.length ck nb cb := by rw [← hW1]; exact RhsAt.new _ _ _ _ _ _ _ _ _ _ _ _
  obtain ⟨c0, c1, c2, c3, c4, cl⟩ := hR
  have g0 : W1.cell? ⟨w.heap.size, 0, none⟩ = some (.int .i64 x) := (hb1.cell (p := ⟨w.heap.size, 0, none⟩) hs0).trans d0
  have HB := Lib.hid (hb0.trans (hb1.mono hb0.size))
  clear hb0 hb1
  go_enter Try.func60, Try.ntmps60
  go_wp2_with (go_at_call 43; refine (within_any _ _ _ _).mono ?_; rintro en w' ⟨rfl, rfl⟩)
  go_ret
  exact ⟨ret_bool (by simp [countB]), HB.out⟩
set_option maxRecDepth 100000 in
set_option maxHeartbeats 1000000 in
theorem count_prim : Calls Try.prog 60 #[.agg #[.int .i64 x, .int .i64 2, .int .i64 n, .slice Aa na ca, .slice Ak ks.length ck, .slice Al nb cb]] w fun e w' => e = .returned (.bool (countB x 2 n na ks nb)) ∧ Below w.heap.size w w' := by
  obtain ⟨W0, hW0⟩ : ∃ W0, w.alloc (.cells #[.int .i64 x, .int .i64 2, .int .i64 n, .slice Aa na ca, .slice Ak ks.length ck, .slice Al nb cb] 54) = W0 := ⟨_, rfl⟩
  have hb0 : Below w.heap.size w W0 := by rw [← hW0]; exact (Below.refl _ _).alloc (Nat.le_refl _) _
  have hs0 : w.heap.size < W0.heap.size := by rw [← hW0]; simp
  obtain ⟨W1, hW1⟩ : ∃ W1, W0.alloc (.cells #[.int .i64 2, .int .i64 n, .slice Aa na ca, .slice Ak ks.length ck, .slice Al nb cb] 52) = W1 := ⟨_, rfl⟩
  have hb1 : Below W0.heap.size W0 W1 := by rw [← hW1]; exact (Below.refl _ _).alloc (Nat.le_refl _) _
  have d0 : W0.cell? ⟨w.heap.size, 0, none⟩ = some (.int .i64 x) := by rw [← hW0, World.cell?_alloc_at _ _ _ _ rfl]; rfl
  have d1 : W0.cell? ⟨w.heap.size, 1, none⟩ = some (.int .i64 2) := by rw [← hW0, World.cell?_alloc_at _ _ _ _ rfl]; rfl
  have d2 : W0.cell? ⟨w.heap.size, 2, none⟩ = some (.int .i64 n) := by rw [← hW0, World.cell?_alloc_at _ _ _ _ rfl]; rfl
  have d3 : W0.cell? ⟨w.heap.size, 3, none⟩ = some (.slice Aa na ca) := by rw [← hW0, World.cell?_alloc_at _ _ _ _ rfl]; rfl
  have d4 : W0.cell? ⟨w.heap.size, 4, none⟩ = some (.slice Ak ks.length ck) := by rw [← hW0, World.cell?_alloc_at _ _ _ _ rfl]; rfl
  have d5 : W0.cell? ⟨w.heap.size, 5, none⟩ = some (.slice Al nb cb) := by rw [← hW0, World.cell?_alloc_at _ _ _ _ rfl]; rfl
  have hR : RhsAt W0 W1 W0.heap.size 2 n Aa Ak Al na ca ks.length ck nb cb := by rw [← hW1]; exact RhsAt.new _ _ _ _ _ _ _ _ _ _ _ _
  obtain ⟨c0, c1, c2, c3, c4, cl⟩ := hR
  have g0 : W1.cell? ⟨w.heap.size, 0, none⟩ = some (.int .i64 x) := (hb1.cell (p := ⟨w.heap.size, 0, none⟩) hs0).trans d0
  have HB := Lib.hid (hb0.trans (hb1.mono hb0.size))
  clear hb0 hb1
  by_cases h9 : n ≤ 9
  · have ht : twoF n = true := by simp [twoF, h9]
    have HT := Lib.hid ht
    clear ht
    go_enter Try.func60, Try.ntmps60
    go_wp2_with (go_at_call 43; refine (within_any _ _ _ _).mono ?_; rintro en w' ⟨rfl, rfl⟩)
    go_ret
    exact ⟨ret_bool (by have := nat_eq_bool na 2; have h := HT.out; simpa [countB, h] using this), HB.out⟩
  · have h9' : ¬ n ≤ 9 := h9
    cases h12 : (n == 12)
    · cases h16 : (n == 16)
      · have ht : twoF n = false := by simp [twoF, h9]; simp at h12 h16; exact ⟨h12, h16⟩
        have HT := Lib.hid ht
        clear ht
        go_enter Try.func60, Try.ntmps60
        go_wp2_with (go_at_call 43; refine (within_any _ _ _ _).mono ?_; rintro en w' ⟨rfl, rfl⟩)
        go_ret
        exact ⟨ret_bool (by have := nat_eq_bool na 1; have h := HT.out; simpa [countB, h] using this), HB.out⟩
      · have ht : twoF n = true := by simp [twoF]; simp at h16; omega
        have HT := Lib.hid ht
        clear ht
        go_enter Try.func60, Try.ntmps60
        go_wp2_with (go_at_call 43; refine (within_any _ _ _ _).mono ?_; rintro en w' ⟨rfl, rfl⟩)
        go_ret
        exact ⟨ret_bool (by have := nat_eq_bool na 2; have h := HT.out; simpa [countB, h] using this), HB.out⟩
    · have ht : twoF n = true := by simp [twoF]; simp at h12; omega
      have HT := Lib.hid ht
      clear ht
      go_enter Try.func60, Try.ntmps60
      go_wp2_with (go_at_call 43; refine (within_any _ _ _ _).mono ?_; rintro en w' ⟨rfl, rfl⟩)
      go_ret
      exact ⟨ret_bool (by have := nat_eq_bool na 2; have h := HT.out; simpa [countB, h] using this), HB.out⟩
set_option maxRecDepth 100000 in
set_option maxHeartbeats 1000000 in
theorem count_switch (hl : ks.length * 8 ≤ 140737488351232) : Calls Try.prog 60 #[.agg #[.int .i64 x, .int .i64 8, .int .i64 n, .slice Aa na ca, .slice Ak ks.length ck, .slice Al nb cb]] w fun e w' => e = .returned (.bool (countB x 8 n na ks nb)) ∧ Below w.heap.size w w' := by
  obtain ⟨W0, hW0⟩ : ∃ W0, w.alloc (.cells #[.int .i64 x, .int .i64 8, .int .i64 n, .slice Aa na ca, .slice Ak ks.length ck, .slice Al nb cb] 54) = W0 := ⟨_, rfl⟩
  have hb0 : Below w.heap.size w W0 := by rw [← hW0]; exact (Below.refl _ _).alloc (Nat.le_refl _) _
  have hs0 : w.heap.size < W0.heap.size := by rw [← hW0]; simp
  obtain ⟨W1, hW1⟩ : ∃ W1, W0.alloc (.cells #[.int .i64 8, .int .i64 n, .slice Aa na ca, .slice Ak ks.length ck, .slice Al nb cb] 52) = W1 := ⟨_, rfl⟩
  have hb1 : Below W0.heap.size W0 W1 := by rw [← hW1]; exact (Below.refl _ _).alloc (Nat.le_refl _) _
  have d0 : W0.cell? ⟨w.heap.size, 0, none⟩ = some (.int .i64 x) := by rw [← hW0, World.cell?_alloc_at _ _ _ _ rfl]; rfl
  have d1 : W0.cell? ⟨w.heap.size, 1, none⟩ = some (.int .i64 8) := by rw [← hW0, World.cell?_alloc_at _ _ _ _ rfl]; rfl
  have d2 : W0.cell? ⟨w.heap.size, 2, none⟩ = some (.int .i64 n) := by rw [← hW0, World.cell?_alloc_at _ _ _ _ rfl]; rfl
  have d3 : W0.cell? ⟨w.heap.size, 3, none⟩ = some (.slice Aa na ca) := by rw [← hW0, World.cell?_alloc_at _ _ _ _ rfl]; rfl
  have d4 : W0.cell? ⟨w.heap.size, 4, none⟩ = some (.slice Ak ks.length ck) := by rw [← hW0, World.cell?_alloc_at _ _ _ _ rfl]; rfl
  have d5 : W0.cell? ⟨w.heap.size, 5, none⟩ = some (.slice Al nb cb) := by rw [← hW0, World.cell?_alloc_at _ _ _ _ rfl]; rfl
  have hR : RhsAt W0 W1 W0.heap.size 8 n Aa Ak Al na ca ks.length ck nb cb := by rw [← hW1]; exact RhsAt.new _ _ _ _ _ _ _ _ _ _ _ _
  obtain ⟨c0, c1, c2, c3, c4, cl⟩ := hR
  have g0 : W1.cell? ⟨w.heap.size, 0, none⟩ = some (.int .i64 x) := (hb1.cell (p := ⟨w.heap.size, 0, none⟩) hs0).trans d0
  have HB := Lib.hid (hb0.trans (hb1.mono hb0.size))
  clear hb0 hb1
  have hw : IntKind.i64.wrap ((ks.length : Int) + 1) = (ks.length : Int) + 1 := by rw [IntKind.wrap_i64]; omega
  cases h1 : ((na : Int) == 1)
  · have HT := Lib.hid (show countB x 8 n na ks nb = false from by rw [show ((na : Int) == 1) = (na == 1) from nat_eq_bool na 1] at h1; simp [countB, h1])
    go_enter Try.func60, Try.ntmps60
    go_wp2_with (go_at_call 43; refine (within_any _ _ _ _).mono ?_; rintro en w' ⟨rfl, rfl⟩)
    go_ret
    exact ⟨ret_bool HT.out.symm, HB.out⟩
  · have HT := Lib.hid (show countB x 8 n na ks nb = ((nb : Int) == (ks.length : Int) + 1) from by rw [show ((na : Int) == 1) = (na == 1) from nat_eq_bool na 1] at h1; have := nat_eq_bool nb (ks.length + 1); simp [countB, h1]; simpa using this.symm)
    go_enter Try.func60, Try.ntmps60
    go_wp2_with (go_at_call 43; refine (within_any _ _ _ _).mono ?_; rintro en w' ⟨rfl, rfl⟩)
    go_ret
    exact ⟨ret_bool HT.out.symm, HB.out⟩
set_option maxRecDepth 100000 in
set_option maxHeartbeats 1000000 in
theorem count_other (k : Int) (hk : k ≠ 6 ∧ k ≠ 2 ∧ k ≠ 3 ∧ k ≠ 9 ∧ k ≠ 8 ∧ k ≠ 10) : Calls Try.prog 60 #[.agg #[.int .i64 x, .int .i64 k, .int .i64 n, .slice Aa na ca, .slice Ak ks.length ck, .slice Al nb cb]] w fun e w' => e = .returned (.bool (countB x k n na ks nb)) ∧ Below w.heap.size w w' := by
  have e2 : (k == 2) = false := by simp; omega
  have e3 : (k == 3) = false := by simp; omega
  have e6 : (k == 6) = false := by simp; omega
  have e8 : (k == 8) = false := by simp; omega
  have e9 : (k == 9) = false := by simp; omega
  have e10 : (k == 10) = false := by simp; omega
  have HT := Lib.hid (show countB x k n na ks nb = (na == 1) from by obtain ⟨h6, h2, h3, h9, h8, h10⟩ := hk; simp [countB, h6, h2, h3, h9, h8, h10])
  clear hk
  obtain ⟨W0, hW0⟩ : ∃ W0, w.alloc (.cells #[.int .i64 x, .int .i64 k, .int .i64 n, .slice Aa na ca, .slice Ak ks.length ck, .slice Al nb cb] 54) = W0 := ⟨_, rfl⟩
  have hb0 : Below w.heap.size w W0 := by rw [← hW0]; exact (Below.refl _ _).alloc (Nat.le_refl _) _
  have hs0 : w.heap.size < W0.heap.size := by rw [← hW0]; simp
  obtain ⟨W1, hW1⟩ : ∃ W1, W0.alloc (.cells #[.int .i64 k, .int .i64 n, .slice Aa na ca, .slice Ak ks.length ck, .slice Al nb cb] 52) = W1 := ⟨_, rfl⟩
  have hb1 : Below W0.heap.size W0 W1 := by rw [← hW1]; exact (Below.refl _ _).alloc (Nat.le_refl _) _
  have d0 : W0.cell? ⟨w.heap.size, 0, none⟩ = some (.int .i64 x) := by rw [← hW0, World.cell?_alloc_at _ _ _ _ rfl]; rfl
  have d1 : W0.cell? ⟨w.heap.size, 1, none⟩ = some (.int .i64 k) := by rw [← hW0, World.cell?_alloc_at _ _ _ _ rfl]; rfl
  have d2 : W0.cell? ⟨w.heap.size, 2, none⟩ = some (.int .i64 n) := by rw [← hW0, World.cell?_alloc_at _ _ _ _ rfl]; rfl
  have d3 : W0.cell? ⟨w.heap.size, 3, none⟩ = some (.slice Aa na ca) := by rw [← hW0, World.cell?_alloc_at _ _ _ _ rfl]; rfl
  have d4 : W0.cell? ⟨w.heap.size, 4, none⟩ = some (.slice Ak ks.length ck) := by rw [← hW0, World.cell?_alloc_at _ _ _ _ rfl]; rfl
  have d5 : W0.cell? ⟨w.heap.size, 5, none⟩ = some (.slice Al nb cb) := by rw [← hW0, World.cell?_alloc_at _ _ _ _ rfl]; rfl
  have hR : RhsAt W0 W1 W0.heap.size k n Aa Ak Al na ca ks.length ck nb cb := by rw [← hW1]; exact RhsAt.new _ _ _ _ _ _ _ _ _ _ _ _
  obtain ⟨c0, c1, c2, c3, c4, cl⟩ := hR
  have g0 : W1.cell? ⟨w.heap.size, 0, none⟩ = some (.int .i64 x) := (hb1.cell (p := ⟨w.heap.size, 0, none⟩) hs0).trans d0
  have HB := Lib.hid (hb0.trans (hb1.mono hb0.size))
  clear hb0 hb1
  go_enter Try.func60, Try.ntmps60
  go_wp2_with (go_at_call 43; refine (within_any _ _ _ _).mono ?_; rintro en w' ⟨rfl, rfl⟩)
  go_ret
  exact ⟨ret_bool (by have := nat_eq_bool na 1; rw [HT.out]; simpa using this), HB.out⟩
set_option maxRecDepth 100000 in
set_option maxHeartbeats 1000000 in
theorem count_group (hk : IntsIn w.heap.size w Ak ks) (hkc : ks.length ≤ ck) : Calls Try.prog 60 #[.agg #[.int .i64 x, .int .i64 10, .int .i64 n, .slice Aa na ca, .slice Ak ks.length ck, .slice Al nb cb]] w fun e w' => e = .returned (.bool (countB x 10 n na ks nb)) ∧ Below w.heap.size w w' := by
  have HK := Lib.hid (fun (V : World) (hV : Below w.heap.size w V) => (show 0 < ks.length → ∃ b o, Ak = some ⟨b, o, none⟩ ∧ ∀ j, j < ks.length → V.cell? ⟨b, o + j, none⟩ = some (.int .i64 (nth ks j)) from fun h0 => by
    obtain ⟨b, o, h1, h2, h3⟩ := hk.at_ h0
    exact ⟨b, o, h1, fun j hj => (hV.cell (p := ⟨_, _, none⟩) h2).trans (h3 j hj)⟩))
  have h64 := hk.1
  clear hk
  obtain ⟨W0, hW0⟩ : ∃ W0, w.alloc (.cells #[.int .i64 x, .int .i64 10, .int .i64 n, .slice Aa na ca, .slice Ak ks.length ck, .slice Al nb cb] 54) = W0 := ⟨_, rfl⟩
  have hb0 : Below w.heap.size w W0 := by rw [← hW0]; exact (Below.refl _ _).alloc (Nat.le_refl _) _
  have hs0 : w.heap.size < W0.heap.size := by rw [← hW0]; simp
  obtain ⟨W1, hW1⟩ : ∃ W1, W0.alloc (.cells #[.int .i64 10, .int .i64 n, .slice Aa na ca, .slice Ak ks.length ck, .slice Al nb cb] 52) = W1 := ⟨_, rfl⟩
  have hb1 : Below W0.heap.size W0 W1 := by rw [← hW1]; exact (Below.refl _ _).alloc (Nat.le_refl _) _
  have d0 : W0.cell? ⟨w.heap.size, 0, none⟩ = some (.int .i64 x) := by rw [← hW0, World.cell?_alloc_at _ _ _ _ rfl]; rfl
  have d1 : W0.cell? ⟨w.heap.size, 1, none⟩ = some (.int .i64 10) := by rw [← hW0, World.cell?_alloc_at _ _ _ _ rfl]; rfl
  have d2 : W0.cell? ⟨w.heap.size, 2, none⟩ = some (.int .i64 n) := by rw [← hW0, World.cell?_alloc_at _ _ _ _ rfl]; rfl
  have d3 : W0.cell? ⟨w.heap.size, 3, none⟩ = some (.slice Aa na ca) := by rw [← hW0, World.cell?_alloc_at _ _ _ _ rfl]; rfl
  have d4 : W0.cell? ⟨w.heap.size, 4, none⟩ = some (.slice Ak ks.length ck) := by rw [← hW0, World.cell?_alloc_at _ _ _ _ rfl]; rfl
  have d5 : W0.cell? ⟨w.heap.size, 5, none⟩ = some (.slice Al nb cb) := by rw [← hW0, World.cell?_alloc_at _ _ _ _ rfl]; rfl
  have hR : RhsAt W0 W1 W0.heap.size 10 n Aa Ak Al na ca ks.length ck nb cb := by rw [← hW1]; exact RhsAt.new _ _ _ _ _ _ _ _ _ _ _ _
  obtain ⟨c0, c1, c2, c3, c4, cl⟩ := hR
  have g0 : W1.cell? ⟨w.heap.size, 0, none⟩ = some (.int .i64 x) := (hb1.cell (p := ⟨w.heap.size, 0, none⟩) hs0).trans d0
  have HB := Lib.hid (hb0.trans (hb1.mono hb0.size))
  clear hb0 hb1
  obtain ⟨out, hout⟩ : ∃ o, countB x 10 n na ks nb = o := ⟨_, rfl⟩
  rw [hout]
  have HO := Lib.hid (show out = ((groupH ks).all (fun h => inB h 0 255) && decide (3 ≤ ks.length) && ks.length % 3 == 0 && sumL (groupH ks) == (na : Int) && nth ks 0 == x) from hout.symm.trans (by simp [countB]))
  clear hout
  have HKK := Lib.hid (HK.out W1 HB.out)
  clear HK
  have HG := Lib.hid (groupH_get' ks)
  have hl := groupH_len ks
  obtain ⟨L, hL⟩ : ∃ L, ks.length = L := ⟨_, rfl⟩
  rw [hL] at hW0 hW1 d4 c3 hkc HO HKK HG hl h64 ⊢
  clear hL
  have HL := Lib.hid hl
  go_enter Try.func60, Try.ntmps60
  go_wp2_with fail
  go_loopw [6, 7] (fun hv iv wr => ∃ j : Nat, 3 * j ≤ L ∧ iv = .int .i64 (3 * (j : Int) + 2) ∧ hv = .int .i64 (sumL ((groupH ks).take j)) ∧ W1 = wr ∧ Hid (((groupH ks).take j).all (fun h => inB h 0 255) = true) ∧ 0 ≤ sumL ((groupH ks).take j) ∧ sumL ((groupH ks).take j) ≤ 255 * (j : Int)) (fun _ iv _ => 3 * L + 9 - (intOf iv).toNat)
  case atStart => exact ⟨0, by omega, rfl, rfl, rfl, Lib.hid (by simp), by simp [sumL], by simp [sumL]⟩
  case round =>
    obtain ⟨j, hj, rfl, rfl, rfl, HA, hs1, hs2⟩ := hrel
    by_cases hlt : 3 * j + 2 < L
    · obtain ⟨b, o, rfl, hall⟩ := HKK.out (by omega)
      have qk := hall (3 * j + 2) hlt
      clear hall
      have e1 : (0 : Int) ≤ 3 * (j : Int) + 2 := by omega
      have e2 : 3 * (j : Int) + 2 < (L : Int) := by omega
      have e3 : (3 * (j : Int) + 2).toNat = 3 * j + 2 := by omega
      have e4 : IntKind.i64.wrap (3 * (j : Int) + 2 + 3) = 3 * (j : Int) + 2 + 3 := by rw [IntKind.wrap_i64]; omega
      have e5 : (L : Int) ≤ (ck : Int) := by omega
      have HGJ := Lib.hid (HG.out j hlt)
      cases hin : inB (nth ks (3 * j + 2)) 0 255
      · have HF := Lib.hid (show out = false from HO.out.trans (by rw [all_false HGJ.out hin]; rfl))
        go_wp2_with (go_at_call 43; refine (within_any _ _ _ _).mono ?_; rintro en w' ⟨rfl, rfl⟩)
        go_ret
        exact ⟨ret_bool HF.out.symm, HB.out⟩
      · have HA2 := Lib.hid (all_take_succ HGJ.out HA.out hin)
        have hrng := inB_iff.1 hin
        have hsum : sumL ((groupH ks).take (j + 1)) = sumL ((groupH ks).take j) + nth ks (3 * j + 2) := by
          rw [List.take_add_one, HGJ.out]
          exact sumL_append _ _
        have HSUM := Lib.hid hsum
        have e6 : IntKind.i64.wrap (sumL ((groupH ks).take j) + nth ks (3 * j + 2)) = sumL ((groupH ks).take j) + nth ks (3 * j + 2) := by rw [IntKind.wrap_i64]; omega
        clear hsum
        generalize hS : sumL ((groupH ks).take j) = S at *
        go_wp2_with (go_at_call 43; refine (within_any _ _ _ _).mono ?_; rintro en w' ⟨rfl, rfl⟩)
        go_roundw
        case rel => exact ⟨j + 1, by omega, by go_num, by rw [HSUM.out], (by first | rfl | trivial), HA2, by rw [HSUM.out]; omega, by rw [HSUM.out]; omega⟩
        case measure => simp [intOf]; omega
    · have e2 : ¬ 3 * (j : Int) + 2 < (L : Int) := by omega
      have hfin : (groupH ks).take j = groupH ks := List.take_of_length_le (by rw [HL.out]; omega)
      have HAA := HA.out
      rw [hfin] at HAA hs1 hs2 ⊢
      have HO2 := Lib.hid (show out = (decide (3 ≤ L) && L % 3 == 0 && sumL (groupH ks) == (na : Int) && nth ks 0 == x) from HO.out.trans (by rw [HAA]; simp))
      clear hfin HAA HA
      generalize sumL (groupH ks) = S at *
      by_cases h3 : 3 ≤ L
      · obtain ⟨b, o, rfl, hall⟩ := HKK.out (by omega)
        have qk := hall 0 (by omega)
        clear hall
        have e3 : (3 : Int) ≤ (L : Int) := by omega
        have e5 : (0 : Int) < (L : Int) := by omega
        have e6 : (L : Int) ≤ (ck : Int) := by omega
        have hm : (L : Int).tmod 3 = ((L % 3 : Nat) : Int) := by rw [Int.tmod_eq_emod_of_nonneg (by omega)]; omega
        simp only [Nat.add_zero] at qk
        have x1 : (((L % 3 : Nat) : Int) == 0) = (L % 3 == 0) := nat_eq_bool _ 0
        obtain ⟨md, hmd⟩ : ∃ md : Int, (L : Int).tmod 3 = md := ⟨_, rfl⟩
        have hmd2 : (md == 0) = (L % 3 == 0) := by rw [← hmd, hm]; exact x1
        have HO3 := Lib.hid (show out = ((md == 0) && S == (na : Int) && nth ks 0 == x) from HO2.out.trans (by rw [hmd2]; simp [h3]))
        clear hm x1 hmd2
        cases y1 : (md == 0)
        · go_wp2_with fail
          go_quiet (fail)
          go_wp2_with fail
          go_ret
          exact ⟨ret_bool (by rw [HO3.out, y1]; rfl), below_drewN HB.out _⟩
        · cases y2 : (S == (na : Int))
          · go_wp2_with fail
            go_quiet (fail)
            go_wp2_with fail
            go_ret
            exact ⟨ret_bool (by rw [HO3.out, y1, y2]; rfl), below_drewN HB.out _⟩
          · go_wp2_with fail
            go_quiet (fail)
            go_wp2_with fail
            go_ret
            exact ⟨ret_bool (by rw [HO3.out, y1, y2]; rfl), below_drewN HB.out _⟩
      · have e3 : decide ((3 : Int) ≤ (L : Int)) = false := by simp; omega
        have HF := Lib.hid (show out = false from HO2.out.trans (by simp [h3]))
        go_wp2_with fail
        go_quiet (fail)
        go_wp2_with fail
        go_ret
        exact ⟨ret_bool HF.out.symm, below_drewN HB.out _⟩
theorem count_any (k : Int) (hk : IntsIn w.heap.size w Ak ks) (hkc : ks.length ≤ ck) : Calls Try.prog 60 #[.agg #[.int .i64 x, .int .i64 k, .int .i64 n, .slice Aa na ca, .slice Ak ks.length ck, .slice Al nb cb]] w fun e w' => e = .returned (.bool (countB x k n na ks nb)) ∧ Below w.heap.size w w' := by
  by_cases h6 : k = 6
  · subst h6; exact count_app x n Aa Ak Al na ca ck nb cb ks w
  by_cases h2 : k = 2
  · subst h2; exact count_prim x n Aa Ak Al na ca ck nb cb ks w
  by_cases h3 : k = 3
  · subst h3; exact count_block x n Aa Ak Al na ca ck nb cb ks w
  by_cases h9 : k = 9
  · subst h9; exact count_close x n Aa Ak Al na ca ck nb cb ks w
  by_cases h8 : k = 8
  · subst h8; exact count_switch x n Aa Ak Al na ca ck nb cb ks w hk.1
  by_cases h10 : k = 10
  · subst h10; exact count_group x n Aa Ak Al na ca ck nb cb ks w hk hkc
  exact count_other x n Aa Ak Al na ca ck nb cb ks w k ⟨h6, h2, h3, h9, h8, h10⟩
end
end Go.Proofs.Ytnobggabjpcbfaa

/-
  clos: slices.ContainsFunc over atoms, number, bind.
-/
set_option linter.unusedVariables false
set_option linter.unusedSimpArgs false
namespace Go.Proofs.Ytnobggabjpcbfaa
open Go.RowKit

set_option maxRecDepth 100000 in
set_option maxHeartbeats 1000000 in
theorem index_num {W : World} {ats : List Atm} {Aa : Option Addr} {ca : Nat} (ha : AtomsIn W.heap.size W Aa ats) (hac : ats.length ≤ ca) (P : Atm → Bool) (hP : ∀ a ∈ ats, ∀ V : World, Below W.heap.size W V → Calls Try.prog 70 #[.agg #[.bool a.v, .int .i64 a.n]] V fun e w' => e = .returned (.bool (P a)) ∧ Below V.heap.size V w') :
    Calls Try.prog 63 #[.slice Aa ats.length ca, .func (.func 70) #[] #[]] W fun e w' => ∃ i : Int, e = .returned (.int .i64 i) ∧ decide (0 ≤ i) = ats.any P ∧ Below W.heap.size W w' := by
  have HA := Lib.hid (fun (j : Nat) (hj : j < ats.length) (V : World) (hV : Below W.heap.size W V) => (show ∃ b o, Aa = some ⟨b, o, none⟩ ∧ V.cell? ⟨b, o + j * 2, none⟩ = some (.bool ats[j].v) ∧ V.cell? ⟨b, o + j * 2 + 1, none⟩ = some (.int .i64 ats[j].n) from by
    rcases ha.2 with rfl | ⟨b, o, rfl, hlt, hc⟩
    · simp at hj
    · have := hc j hj
      simp only [List.getElem?_eq_getElem hj, Option.getD_some] at this
      exact ⟨b, o, rfl, (hV.cell (p := ⟨_, _, none⟩) hlt).trans this.1, (hV.cell (p := ⟨_, _, none⟩) hlt).trans this.2⟩))
  have HP := Lib.hid (fun (j : Nat) (hj : j < ats.length) => hP ats[j] (List.getElem_mem hj))
  have h16 := ha.1
  clear ha hP
  obtain ⟨L, hL⟩ : ∃ L, ats.length = L := ⟨_, rfl⟩
  have HL := Lib.hid hL
  rw [hL] at h16 hac ⊢
  clear hL
  go_enter Try.func63, Try.ntmps63
  go_wp2_with fail
  go_loopw [8] (fun iv wr => ∃ j : Nat, j ≤ L ∧ iv = .int .i64 (j : Int) ∧ Hid (Below W.heap.size W wr) ∧ Hid (∀ i, i < j → ∀ x, ats[i]? = some x → P x = false)) (fun iv _ => L + 1 - (intOf iv).toNat)
  case atStart => exact ⟨0, by omega, rfl, Lib.hid (Below.refl _ _), Lib.hid (fun i hi => by omega)⟩
  case round =>
    obtain ⟨j, hj, rfl, HW, HN⟩ := hrel
    by_cases hlt : j < L
    · have hja : j < ats.length := by rw [HL.out]; exact hlt
      obtain ⟨b, o, rfl, c0, c1⟩ := HA.out j hja wr HW.out
      have HC := Lib.hid (HP.out j hja wr HW.out)
      have HG := Lib.hid (List.getElem?_eq_getElem hja)
      generalize ats[j] = at_ at *
      obtain ⟨av, an⟩ := at_
      have e1 : (0 : Int) ≤ (j : Int) := by omega
      have e2 : (j : Int) < (L : Int) := by omega
      have e4 : IntKind.i64.wrap ((j : Int) + 1) = (j : Int) + 1 := by rw [IntKind.wrap_i64]; omega
      have e5 : (L : Int) ≤ (ca : Int) := by omega
      cases hp : P ⟨av, an⟩
      · rw [hp] at HC
        have HN2 := Lib.hid (show ∀ i, i < j + 1 → ∀ x, ats[i]? = some x → P x = false from fun i hi x hx => by
          by_cases hij : i = j
          · subst hij
            rw [HG.out] at hx
            cases hx
            exact hp
          · exact HN.out i (by omega) x hx)
        clear hp
        go_wp2_with fail
        refine HC.out.mono ?_
        rintro en w' ⟨rfl, hb⟩
        have HW2 := Lib.hid (HW.out.trans (hb.mono HW.out.size))
        clear hb
        go_wp2_with fail
        go_roundw
        case rel => exact ⟨j + 1, by omega, by go_num, HW2, HN2⟩
        case measure => simp [intOf]; omega
      · rw [hp] at HC
        have HT := Lib.hid (show ats.any P = true from List.any_eq_true.2 ⟨_, List.mem_of_getElem? HG.out, hp⟩)
        clear hp
        go_wp2_with fail
        refine HC.out.mono ?_
        rintro en w' ⟨rfl, hb⟩
        have HW2 := Lib.hid (HW.out.trans (hb.mono HW.out.size))
        clear hb
        go_wp2_with fail
        go_ret
        exact ⟨(j : Int), rfl, by rw [HT.out]; simp, HW2.out⟩
    · have e2 : ¬ (j : Int) < (L : Int) := by omega
      have HF := Lib.hid (show ats.any P = false from any_false_take HN.out (by rw [HL.out]; omega))
      go_wp2_with fail
      go_ret
      exact ⟨-1, rfl, by rw [HF.out]; decide, HW.out⟩
theorem contains_num {W : World} {ats : List Atm} {Aa : Option Addr} {ca : Nat} (ha : AtomsIn W.heap.size W Aa ats) (hac : ats.length ≤ ca) (P : Atm → Bool) (hP : ∀ a ∈ ats, ∀ V : World, Below W.heap.size W V → Calls Try.prog 70 #[.agg #[.bool a.v, .int .i64 a.n]] V fun e w' => e = .returned (.bool (P a)) ∧ Below V.heap.size V w') :
    Calls Try.prog 46 #[.slice Aa ats.length ca, .func (.func 70) #[] #[]] W fun e w' => e = .returned (.bool (ats.any P)) ∧ Below W.heap.size W w' := by
  have HC := Lib.hid (index_num ha hac P hP)
  clear ha hP
  go_enter Try.func46, Try.ntmps46
  go_wp2_with fail
  refine HC.out.mono ?_
  rintro en w' ⟨i, rfl, hi, hb⟩
  have HI := Lib.hid hi
  have HB := Lib.hid hb
  clear hi hb
  go_wp2_with fail
  go_ret
  exact ⟨ret_bool HI.out, HB.out⟩
set_option maxRecDepth 100000 in
set_option maxHeartbeats 1000000 in
theorem index_ask {vb : Nat} {W : World} {ats : List Atm} {Aa : Option Addr} {ca : Nat} (ha : AtomsIn W.heap.size W Aa ats) (hac : ats.length ≤ ca) (P : Atm → Bool) (hP : ∀ a ∈ ats, ∀ V : World, Below W.heap.size W V → Calls Try.prog 47 #[.agg #[.bool a.v, .int .i64 a.n], .pointer (some ⟨vb, 0, none⟩)] V fun e w' => e = .returned (.bool (P a)) ∧ Below V.heap.size V w') :
    Calls Try.prog 63 #[.slice Aa ats.length ca, .func (.func 47) #[] #[.pointer (some ⟨vb, 0, none⟩)]] W fun e w' => ∃ i : Int, e = .returned (.int .i64 i) ∧ decide (0 ≤ i) = ats.any P ∧ Below W.heap.size W w' := by
  have HA := Lib.hid (fun (j : Nat) (hj : j < ats.length) (V : World) (hV : Below W.heap.size W V) => (show ∃ b o, Aa = some ⟨b, o, none⟩ ∧ V.cell? ⟨b, o + j * 2, none⟩ = some (.bool ats[j].v) ∧ V.cell? ⟨b, o + j * 2 + 1, none⟩ = some (.int .i64 ats[j].n) from by
    rcases ha.2 with rfl | ⟨b, o, rfl, hlt, hc⟩
    · simp at hj
    · have := hc j hj
      simp only [List.getElem?_eq_getElem hj, Option.getD_some] at this
      exact ⟨b, o, rfl, (hV.cell (p := ⟨_, _, none⟩) hlt).trans this.1, (hV.cell (p := ⟨_, _, none⟩) hlt).trans this.2⟩))
  have HP := Lib.hid (fun (j : Nat) (hj : j < ats.length) => hP ats[j] (List.getElem_mem hj))
  have h16 := ha.1
  clear ha hP
  obtain ⟨L, hL⟩ : ∃ L, ats.length = L := ⟨_, rfl⟩
  have HL := Lib.hid hL
  rw [hL] at h16 hac ⊢
  clear hL
  go_enter Try.func63, Try.ntmps63
  go_wp2_with fail
  go_loopw [8] (fun iv wr => ∃ j : Nat, j ≤ L ∧ iv = .int .i64 (j : Int) ∧ Hid (Below W.heap.size W wr) ∧ Hid (∀ i, i < j → ∀ x, ats[i]? = some x → P x = false)) (fun iv _ => L + 1 - (intOf iv).toNat)
  case atStart => exact ⟨0, by omega, rfl, Lib.hid (Below.refl _ _), Lib.hid (fun i hi => by omega)⟩
  case round =>
    obtain ⟨j, hj, rfl, HW, HN⟩ := hrel
    by_cases hlt : j < L
    · have hja : j < ats.length := by rw [HL.out]; exact hlt
      obtain ⟨b, o, rfl, c0, c1⟩ := HA.out j hja wr HW.out
      have HC := Lib.hid (HP.out j hja wr HW.out)
      have HG := Lib.hid (List.getElem?_eq_getElem hja)
      generalize ats[j] = at_ at *
      obtain ⟨av, an⟩ := at_
      have e1 : (0 : Int) ≤ (j : Int) := by omega
      have e2 : (j : Int) < (L : Int) := by omega
      have e4 : IntKind.i64.wrap ((j : Int) + 1) = (j : Int) + 1 := by rw [IntKind.wrap_i64]; omega
      have e5 : (L : Int) ≤ (ca : Int) := by omega
      cases hp : P ⟨av, an⟩
      · rw [hp] at HC
        have HN2 := Lib.hid (show ∀ i, i < j + 1 → ∀ x, ats[i]? = some x → P x = false from fun i hi x hx => by
          by_cases hij : i = j
          · subst hij
            rw [HG.out] at hx
            cases hx
            exact hp
          · exact HN.out i (by omega) x hx)
        clear hp
        go_wp2_with fail
        refine HC.out.mono ?_
        rintro en w' ⟨rfl, hb⟩
        have HW2 := Lib.hid (HW.out.trans (hb.mono HW.out.size))
        clear hb
        go_wp2_with fail
        go_roundw
        case rel => exact ⟨j + 1, by omega, by go_num, HW2, HN2⟩
        case measure => simp [intOf]; omega
      · rw [hp] at HC
        have HT := Lib.hid (show ats.any P = true from List.any_eq_true.2 ⟨_, List.mem_of_getElem? HG.out, hp⟩)
        clear hp
        go_wp2_with fail
        refine HC.out.mono ?_
        rintro en w' ⟨rfl, hb⟩
        have HW2 := Lib.hid (HW.out.trans (hb.mono HW.out.size))
        clear hb
        go_wp2_with fail
        go_ret
        exact ⟨(j : Int), rfl, by rw [HT.out]; simp, HW2.out⟩
    · have e2 : ¬ (j : Int) < (L : Int) := by omega
      have HF := Lib.hid (show ats.any P = false from any_false_take HN.out (by rw [HL.out]; omega))
      go_wp2_with fail
      go_ret
      exact ⟨-1, rfl, by rw [HF.out]; decide, HW.out⟩
theorem contains_ask {vb : Nat} {W : World} {ats : List Atm} {Aa : Option Addr} {ca : Nat} (ha : AtomsIn W.heap.size W Aa ats) (hac : ats.length ≤ ca) (P : Atm → Bool) (hP : ∀ a ∈ ats, ∀ V : World, Below W.heap.size W V → Calls Try.prog 47 #[.agg #[.bool a.v, .int .i64 a.n], .pointer (some ⟨vb, 0, none⟩)] V fun e w' => e = .returned (.bool (P a)) ∧ Below V.heap.size V w') :
    Calls Try.prog 46 #[.slice Aa ats.length ca, .func (.func 47) #[] #[.pointer (some ⟨vb, 0, none⟩)]] W fun e w' => e = .returned (.bool (ats.any P)) ∧ Below W.heap.size W w' := by
  have HC := Lib.hid (index_ask ha hac P hP)
  clear ha hP
  go_enter Try.func46, Try.ntmps46
  go_wp2_with fail
  refine HC.out.mono ?_
  rintro en w' ⟨i, rfl, hi, hb⟩
  have HI := Lib.hid hi
  have HB := Lib.hid hb
  clear hi hb
  go_wp2_with fail
  go_ret
  exact ⟨ret_bool HI.out, HB.out⟩
end Go.Proofs.Ytnobggabjpcbfaa

/-
  clos: number.
-/
set_option linter.unusedVariables false
set_option linter.unusedSimpArgs false
namespace Go.Proofs.Ytnobggabjpcbfaa
open Go.RowKit

theorem all_of_any (ats : List Atm) : (!(ats.any fun a => !atomB a)) = ats.all atomB := by
  rw [Bool.eq_iff_iff]; simp
section
variable {cb_ mb nf : Nat} (hnf : nf ≤ 1000000) (x n : Int) {Aa Ak Al : Option Addr} {ca ck nb cb : Nat} {ats : List Atm} {ks : List Int} {w : World} (hc : w.heap[cb_]? = some (.cells #[.int .i64 (nf : Int), .map (some mb)] 71 (0, 0))) (ha : AtomsIn w.heap.size w Aa ats) (hac : ats.length ≤ ca) (hk : IntsIn w.heap.size w Ak ks) (hkc : ks.length ≤ ck)
set_option maxRecDepth 100000 in
set_option maxHeartbeats 2000000 in
include hnf hc ha hac hk hkc in
theorem cnum_block : Calls Try.prog 59 #[.pointer (some ⟨cb_, 0, none⟩), .agg #[.int .i64 x, .int .i64 3, .int .i64 n, .slice Aa ats.length ca, .slice Ak ks.length ck, .slice Al nb cb]] w fun e w' => e = .returned (.bool (numberB nf x 3 n ats ks)) ∧ Below w.heap.size w w' := by
  obtain ⟨W0, hW0⟩ : ∃ W0, w.alloc (.cells #[.int .i64 x, .int .i64 3, .int .i64 n, .slice Aa ats.length ca, .slice Ak ks.length ck, .slice Al nb cb] 54) = W0 := ⟨_, rfl⟩
  have hb0 : Below w.heap.size w W0 := by rw [← hW0]; exact (Below.refl _ _).alloc (Nat.le_refl _) _
  have hs0 : w.heap.size < W0.heap.size := by rw [← hW0]; simp
  obtain ⟨W1, hW1⟩ : ∃ W1, W0.alloc (.cells #[.int .i64 3, .int .i64 n, .slice Aa ats.length ca, .slice Ak ks.length ck, .slice Al nb cb] 52) = W1 := ⟨_, rfl⟩
  have hb1 : Below W0.heap.size W0 W1 := by rw [← hW1]; exact (Below.refl _ _).alloc (Nat.le_refl _) _
  have d0 : W0.cell? ⟨w.heap.size, 0, none⟩ = some (.int .i64 x) := by rw [← hW0, World.cell?_alloc_at _ _ _ _ rfl]; rfl
  have d1 : W0.cell? ⟨w.heap.size, 1, none⟩ = some (.int .i64 3) := by rw [← hW0, World.cell?_alloc_at _ _ _ _ rfl]; rfl
  have d2 : W0.cell? ⟨w.heap.size, 2, none⟩ = some (.int .i64 n) := by rw [← hW0, World.cell?_alloc_at _ _ _ _ rfl]; rfl
  have d3 : W0.cell? ⟨w.heap.size, 3, none⟩ = some (.slice Aa ats.length ca) := by rw [← hW0, World.cell?_alloc_at _ _ _ _ rfl]; rfl
  have d4 : W0.cell? ⟨w.heap.size, 4, none⟩ = some (.slice Ak ks.length ck) := by rw [← hW0, World.cell?_alloc_at _ _ _ _ rfl]; rfl
  have d5 : W0.cell? ⟨w.heap.size, 5, none⟩ = some (.slice Al nb cb) := by rw [← hW0, World.cell?_alloc_at _ _ _ _ rfl]; rfl
  have hR : RhsAt W0 W1 W0.heap.size 3 n Aa Ak Al ats.length ca ks.length ck nb cb := by rw [← hW1]; exact RhsAt.new _ _ _ _ _ _ _ _ _ _ _ _
  have HR := Lib.hid (fun (V : World) (hV : Below W1.heap.size W1 V) => hR.behind hV)
  obtain ⟨c0, c1, c2, c3, c4, cl⟩ := hR
  have g0 : W1.cell? ⟨w.heap.size, 0, none⟩ = some (.int .i64 x) := (hb1.cell (p := ⟨w.heap.size, 0, none⟩) hs0).trans d0
  have hB := hb0.trans (hb1.mono hb0.size)
  have cc : w.cell? ⟨cb_, 0, none⟩ = some (.int .i64 (nf : Int)) := by simp [World.cell?, hc]
  have cn : W1.cell? ⟨cb_, 0, none⟩ = some (.int .i64 (nf : Int)) := cell_behind hB cc
  have hw1 : IntKind.i64.wrap ((nf : Int) - 1) = (nf : Int) - 1 := by rw [IntKind.wrap_i64]; omega
  have HCON := Lib.hid (fun (V : World) (hV : Below w.heap.size w V) => (contains_num (W := V) (ats := ats) (Aa := Aa) (ca := ca) ((ha.below hV).mono hV.size) hac (fun a => !atomB a) (fun a _ V' hV' => number1_any a.v a.n V')).mono (R' := fun e V' => e = .returned (.bool (ats.any fun a => !atomB a)) ∧ Below w.heap.size w V') fun e V' h => ⟨h.1, hV.trans (h.2.mono hV.size)⟩)
  have HGR := Lib.hid (fun (V : World) (hV : Below w.heap.size w V) => cgroup_any 3 n Aa Ak Al ats.length ca ck nb cb ks V ((hk.below hV).mono hV.size) hkc)
  have HB := Lib.hid hB
  clear hb0 hb1 hB cc hc ha hk
  obtain ⟨out, hout⟩ : ∃ o, numberB nf x 3 n ats ks = o := ⟨_, rfl⟩
  rw [hout]
  have HO := Lib.hid (show out = (varB x && inB n 0 1023 && ats.all atomB) from hout.symm.trans (by simp [numberB]))
  clear hout
  cases h1 : varB x
  · have HF := Lib.hid (show out = false from HO.out.trans (by rw [h1]; rfl))
    go_enter Try.func59, Try.ntmps59
    go_wp2_with (first | (go_at_call 30; refine (variable_any _ _).mono ?_; rintro en w' ⟨rfl, rfl⟩) | (go_at_call 43; refine (within_any _ _ _ _).mono ?_; rintro en w' ⟨rfl, rfl⟩))
    go_ret
    exact ⟨ret_bool HF.out.symm, HB.out⟩
  · cases h2 : inB n 0 1023
    · have HF := Lib.hid (show out = false from HO.out.trans (by rw [h1, h2]; rfl))
      go_enter Try.func59, Try.ntmps59
      go_wp2_with (first | (go_at_call 30; refine (variable_any _ _).mono ?_; rintro en w' ⟨rfl, rfl⟩) | (go_at_call 43; refine (within_any _ _ _ _).mono ?_; rintro en w' ⟨rfl, rfl⟩))
      go_ret
      exact ⟨ret_bool HF.out.symm, HB.out⟩
    · have HT := Lib.hid (show out = ats.all atomB from HO.out.trans (by rw [h1, h2]; simp))
      go_enter Try.func59, Try.ntmps59
      go_wp2_with (first | (go_at_call 30; refine (variable_any _ _).mono ?_; rintro en w' ⟨rfl, rfl⟩) | (go_at_call 43; refine (within_any _ _ _ _).mono ?_; rintro en w' ⟨rfl, rfl⟩))
      refine (HCON.out _ (HB.out)).mono ?_
      rintro en w' ⟨rfl, hb⟩
      have HB2 := Lib.hid hb
      clear hb
      go_wp2_with fail
      go_ret
      exact ⟨ret_bool (by rw [HT.out]; exact all_of_any ats), HB2.out⟩
set_option maxRecDepth 100000 in
set_option maxHeartbeats 2000000 in
include hnf hc ha hac hk hkc in
theorem cnum_field : Calls Try.prog 59 #[.pointer (some ⟨cb_, 0, none⟩), .agg #[.int .i64 x, .int .i64 4, .int .i64 n, .slice Aa ats.length ca, .slice Ak ks.length ck, .slice Al nb cb]] w fun e w' => e = .returned (.bool (numberB nf x 4 n ats ks)) ∧ Below w.heap.size w w' := by
  obtain ⟨W0, hW0⟩ : ∃ W0, w.alloc (.cells #[.int .i64 x, .int .i64 4, .int .i64 n, .slice Aa ats.length ca, .slice Ak ks.length ck, .slice Al nb cb] 54) = W0 := ⟨_, rfl⟩
  have hb0 : Below w.heap.size w W0 := by rw [← hW0]; exact (Below.refl _ _).alloc (Nat.le_refl _) _
  have hs0 : w.heap.size < W0.heap.size := by rw [← hW0]; simp
  obtain ⟨W1, hW1⟩ : ∃ W1, W0.alloc (.cells #[.int .i64 4, .int .i64 n, .slice Aa ats.length ca, .slice Ak ks.length ck, .slice Al nb cb] 52) = W1 := ⟨_, rfl⟩
  have hb1 : Below W0.heap.size W0 W1 := by rw [← hW1]; exact (Below.refl _ _).alloc (Nat.le_refl _) _
  have d0 : W0.cell? ⟨w.heap.size, 0, none⟩ = some (.int .i64 x) := by rw [← hW0, World.cell?_alloc_at _ _ _ _ rfl]; rfl
  have d1 : W0.cell? ⟨w.heap.size, 1, none⟩ = some (.int .i64 4) := by rw [← hW0, World.cell?_alloc_at _ _ _ _ rfl]; rfl
  have d2 : W0.cell? ⟨w.heap.size, 2, none⟩ = some (.int .i64 n) := by rw [← hW0, World.cell?_alloc_at _ _ _ _ rfl]; rfl
  have d3 : W0.cell? ⟨w.heap.size, 3, none⟩ = some (.slice Aa ats.length ca) := by rw [← hW0, World.cell?_alloc_at _ _ _ _ rfl]; rfl
  have d4 : W0.cell? ⟨w.heap.size, 4, none⟩ = some (.slice Ak ks.length ck) := by rw [← hW0, World.cell?_alloc_at _ _ _ _ rfl]; rfl
  have d5 : W0.cell? ⟨w.heap.size, 5, none⟩ = some (.slice Al nb cb) := by rw [← hW0, World.cell?_alloc_at _ _ _ _ rfl]; rfl
  have hR : RhsAt W0 W1 W0.heap.size 4 n Aa Ak Al ats.length ca ks.length ck nb cb := by rw [← hW1]; exact RhsAt.new _ _ _ _ _ _ _ _ _ _ _ _
  have HR := Lib.hid (fun (V : World) (hV : Below W1.heap.size W1 V) => hR.behind hV)
  obtain ⟨c0, c1, c2, c3, c4, cl⟩ := hR
  have g0 : W1.cell? ⟨w.heap.size, 0, none⟩ = some (.int .i64 x) := (hb1.cell (p := ⟨w.heap.size, 0, none⟩) hs0).trans d0
  have hB := hb0.trans (hb1.mono hb0.size)
  have cc : w.cell? ⟨cb_, 0, none⟩ = some (.int .i64 (nf : Int)) := by simp [World.cell?, hc]
  have cn : W1.cell? ⟨cb_, 0, none⟩ = some (.int .i64 (nf : Int)) := cell_behind hB cc
  have hw1 : IntKind.i64.wrap ((nf : Int) - 1) = (nf : Int) - 1 := by rw [IntKind.wrap_i64]; omega
  have HCON := Lib.hid (fun (V : World) (hV : Below w.heap.size w V) => (contains_num (W := V) (ats := ats) (Aa := Aa) (ca := ca) ((ha.below hV).mono hV.size) hac (fun a => !atomB a) (fun a _ V' hV' => number1_any a.v a.n V')).mono (R' := fun e V' => e = .returned (.bool (ats.any fun a => !atomB a)) ∧ Below w.heap.size w V') fun e V' h => ⟨h.1, hV.trans (h.2.mono hV.size)⟩)
  have HGR := Lib.hid (fun (V : World) (hV : Below w.heap.size w V) => cgroup_any 4 n Aa Ak Al ats.length ca ck nb cb ks V ((hk.below hV).mono hV.size) hkc)
  have HB := Lib.hid hB
  clear hb0 hb1 hB cc hc ha hk
  obtain ⟨out, hout⟩ : ∃ o, numberB nf x 4 n ats ks = o := ⟨_, rfl⟩
  rw [hout]
  have HO := Lib.hid (show out = (varB x && inB n 0 255 && ats.all atomB) from hout.symm.trans (by simp [numberB]))
  clear hout
  cases h1 : varB x
  · have HF := Lib.hid (show out = false from HO.out.trans (by rw [h1]; rfl))
    go_enter Try.func59, Try.ntmps59
    go_wp2_with (first | (go_at_call 30; refine (variable_any _ _).mono ?_; rintro en w' ⟨rfl, rfl⟩) | (go_at_call 43; refine (within_any _ _ _ _).mono ?_; rintro en w' ⟨rfl, rfl⟩))
    go_ret
    exact ⟨ret_bool HF.out.symm, HB.out⟩
  · cases h2 : inB n 0 255
    · have HF := Lib.hid (show out = false from HO.out.trans (by rw [h1, h2]; rfl))
      go_enter Try.func59, Try.ntmps59
      go_wp2_with (first | (go_at_call 30; refine (variable_any _ _).mono ?_; rintro en w' ⟨rfl, rfl⟩) | (go_at_call 43; refine (within_any _ _ _ _).mono ?_; rintro en w' ⟨rfl, rfl⟩))
      go_ret
      exact ⟨ret_bool HF.out.symm, HB.out⟩
    · have HT := Lib.hid (show out = ats.all atomB from HO.out.trans (by rw [h1, h2]; simp))
      go_enter Try.func59, Try.ntmps59
      go_wp2_with (first | (go_at_call 30; refine (variable_any _ _).mono ?_; rintro en w' ⟨rfl, rfl⟩) | (go_at_call 43; refine (within_any _ _ _ _).mono ?_; rintro en w' ⟨rfl, rfl⟩))
      refine (HCON.out _ (HB.out)).mono ?_
      rintro en w' ⟨rfl, hb⟩
      have HB2 := Lib.hid hb
      clear hb
      go_wp2_with fail
      go_ret
      exact ⟨ret_bool (by rw [HT.out]; exact all_of_any ats), HB2.out⟩
set_option maxRecDepth 100000 in
set_option maxHeartbeats 2000000 in
include hnf hc ha hac hk hkc in
theorem cnum_close : Calls Try.prog 59 #[.pointer (some ⟨cb_, 0, none⟩), .agg #[.int .i64 x, .int .i64 9, .int .i64 n, .slice Aa ats.length ca, .slice Ak ks.length ck, .slice Al nb cb]] w fun e w' => e = .returned (.bool (numberB nf x 9 n ats ks)) ∧ Below w.heap.size w w' := by
  obtain ⟨W0, hW0⟩ : ∃ W0, w.alloc (.cells #[.int .i64 x, .int .i64 9, .int .i64 n, .slice Aa ats.length ca, .slice Ak ks.length ck, .slice Al nb cb] 54) = W0 := ⟨_, rfl⟩
  have hb0 : Below w.heap.size w W0 := by rw [← hW0]; exact (Below.refl _ _).alloc (Nat.le_refl _) _
  have hs0 : w.heap.size < W0.heap.size := by rw [← hW0]; simp
  obtain ⟨W1, hW1⟩ : ∃ W1, W0.alloc (.cells #[.int .i64 9, .int .i64 n, .slice Aa ats.length ca, .slice Ak ks.length ck, .slice Al nb cb] 52) = W1 := ⟨_, rfl⟩
  have hb1 : Below W0.heap.size W0 W1 := by rw [← hW1]; exact (Below.refl _ _).alloc (Nat.le_refl _) _
  have d0 : W0.cell? ⟨w.heap.size, 0, none⟩ = some (.int .i64 x) := by rw [← hW0, World.cell?_alloc_at _ _ _ _ rfl]; rfl
  have d1 : W0.cell? ⟨w.heap.size, 1, none⟩ = some (.int .i64 9) := by rw [← hW0, World.cell?_alloc_at _ _ _ _ rfl]; rfl
  have d2 : W0.cell? ⟨w.heap.size, 2, none⟩ = some (.int .i64 n) := by rw [← hW0, World.cell?_alloc_at _ _ _ _ rfl]; rfl
  have d3 : W0.cell? ⟨w.heap.size, 3, none⟩ = some (.slice Aa ats.length ca) := by rw [← hW0, World.cell?_alloc_at _ _ _ _ rfl]; rfl
  have d4 : W0.cell? ⟨w.heap.size, 4, none⟩ = some (.slice Ak ks.length ck) := by rw [← hW0, World.cell?_alloc_at _ _ _ _ rfl]; rfl
  have d5 : W0.cell? ⟨w.heap.size, 5, none⟩ = some (.slice Al nb cb) := by rw [← hW0, World.cell?_alloc_at _ _ _ _ rfl]; rfl
  have hR : RhsAt W0 W1 W0.heap.size 9 n Aa Ak Al ats.length ca ks.length ck nb cb := by rw [← hW1]; exact RhsAt.new _ _ _ _ _ _ _ _ _ _ _ _
  have HR := Lib.hid (fun (V : World) (hV : Below W1.heap.size W1 V) => hR.behind hV)
  obtain ⟨c0, c1, c2, c3, c4, cl⟩ := hR
  have g0 : W1.cell? ⟨w.heap.size, 0, none⟩ = some (.int .i64 x) := (hb1.cell (p := ⟨w.heap.size, 0, none⟩) hs0).trans d0
  have hB := hb0.trans (hb1.mono hb0.size)
  have cc : w.cell? ⟨cb_, 0, none⟩ = some (.int .i64 (nf : Int)) := by simp [World.cell?, hc]
  have cn : W1.cell? ⟨cb_, 0, none⟩ = some (.int .i64 (nf : Int)) := cell_behind hB cc
  have hw1 : IntKind.i64.wrap ((nf : Int) - 1) = (nf : Int) - 1 := by rw [IntKind.wrap_i64]; omega
  have HCON := Lib.hid (fun (V : World) (hV : Below w.heap.size w V) => (contains_num (W := V) (ats := ats) (Aa := Aa) (ca := ca) ((ha.below hV).mono hV.size) hac (fun a => !atomB a) (fun a _ V' hV' => number1_any a.v a.n V')).mono (R' := fun e V' => e = .returned (.bool (ats.any fun a => !atomB a)) ∧ Below w.heap.size w V') fun e V' h => ⟨h.1, hV.trans (h.2.mono hV.size)⟩)
  have HGR := Lib.hid (fun (V : World) (hV : Below w.heap.size w V) => cgroup_any 9 n Aa Ak Al ats.length ca ck nb cb ks V ((hk.below hV).mono hV.size) hkc)
  have HB := Lib.hid hB
  clear hb0 hb1 hB cc hc ha hk
  obtain ⟨out, hout⟩ : ∃ o, numberB nf x 9 n ats ks = o := ⟨_, rfl⟩
  rw [hout]
  have HO := Lib.hid (show out = (varB x && inB n 0 ((nf : Int) - 1) && ats.all atomB) from hout.symm.trans (by simp [numberB]))
  clear hout
  cases h1 : varB x
  · have HF := Lib.hid (show out = false from HO.out.trans (by rw [h1]; rfl))
    go_enter Try.func59, Try.ntmps59
    go_wp2_with (first | (go_at_call 30; refine (variable_any _ _).mono ?_; rintro en w' ⟨rfl, rfl⟩) | (go_at_call 43; refine (within_any _ _ _ _).mono ?_; rintro en w' ⟨rfl, rfl⟩))
    go_quiet ((go_at_call 43; exact Calls.quiet_of_same (within_q _ _ _ _)))
    go_wp2_with (first | (go_at_call 30; refine (variable_any _ _).mono ?_; rintro en w' ⟨rfl, rfl⟩) | (go_at_call 43; refine (within_any _ _ _ _).mono ?_; rintro en w' ⟨rfl, rfl⟩))
    go_ret
    exact ⟨ret_bool HF.out.symm, below_drewN HB.out _⟩
  · cases h2 : inB n 0 ((nf : Int) - 1)
    · have HF := Lib.hid (show out = false from HO.out.trans (by rw [h1, h2]; rfl))
      go_enter Try.func59, Try.ntmps59
      go_wp2_with (first | (go_at_call 30; refine (variable_any _ _).mono ?_; rintro en w' ⟨rfl, rfl⟩) | (go_at_call 43; refine (within_any _ _ _ _).mono ?_; rintro en w' ⟨rfl, rfl⟩))
      go_quiet ((go_at_call 43; exact Calls.quiet_of_same (within_q _ _ _ _)))
      go_wp2_with (first | (go_at_call 30; refine (variable_any _ _).mono ?_; rintro en w' ⟨rfl, rfl⟩) | (go_at_call 43; refine (within_any _ _ _ _).mono ?_; rintro en w' ⟨rfl, rfl⟩))
      go_ret
      exact ⟨ret_bool HF.out.symm, below_drewN HB.out _⟩
    · have HT := Lib.hid (show out = ats.all atomB from HO.out.trans (by rw [h1, h2]; simp))
      go_enter Try.func59, Try.ntmps59
      go_wp2_with (first | (go_at_call 30; refine (variable_any _ _).mono ?_; rintro en w' ⟨rfl, rfl⟩) | (go_at_call 43; refine (within_any _ _ _ _).mono ?_; rintro en w' ⟨rfl, rfl⟩))
      go_quiet ((go_at_call 43; exact Calls.quiet_of_same (within_q _ _ _ _)))
      go_wp2_with (first | (go_at_call 30; refine (variable_any _ _).mono ?_; rintro en w' ⟨rfl, rfl⟩) | (go_at_call 43; refine (within_any _ _ _ _).mono ?_; rintro en w' ⟨rfl, rfl⟩))
      refine (HCON.out _ (below_drewN HB.out _)).mono ?_
      rintro en w' ⟨rfl, hb⟩
      have HB2 := Lib.hid hb
      clear hb
      go_wp2_with fail
      go_ret
      exact ⟨ret_bool (by rw [HT.out]; exact all_of_any ats), HB2.out⟩
set_option maxRecDepth 100000 in
set_option maxHeartbeats 2000000 in
include hnf hc ha hac hk hkc in
theorem cnum_other (k : Int) (hk0 : k ≠ 3 ∧ k ≠ 4 ∧ k ≠ 9 ∧ k ≠ 10) : Calls Try.prog 59 #[.pointer (some ⟨cb_, 0, none⟩), .agg #[.int .i64 x, .int .i64 k, .int .i64 n, .slice Aa ats.length ca, .slice Ak ks.length ck, .slice Al nb cb]] w fun e w' => e = .returned (.bool (numberB nf x k n ats ks)) ∧ Below w.heap.size w w' := by
  have e3 : (k == 3) = false := by simp; omega
  have e4 : (k == 4) = false := by simp; omega
  have e9 : (k == 9) = false := by simp; omega
  have e10 : (k == 10) = false := by simp; omega
  obtain ⟨W0, hW0⟩ : ∃ W0, w.alloc (.cells #[.int .i64 x, .int .i64 k, .int .i64 n, .slice Aa ats.length ca, .slice Ak ks.length ck, .slice Al nb cb] 54) = W0 := ⟨_, rfl⟩
  have hb0 : Below w.heap.size w W0 := by rw [← hW0]; exact (Below.refl _ _).alloc (Nat.le_refl _) _
  have hs0 : w.heap.size < W0.heap.size := by rw [← hW0]; simp
  obtain ⟨W1, hW1⟩ : ∃ W1, W0.alloc (.cells #[.int .i64 k, .int .i64 n, .slice Aa ats.length ca, .slice Ak ks.length ck, .slice Al nb cb] 52) = W1 := ⟨_, rfl⟩
  have hb1 : Below W0.heap.size W0 W1 := by rw [← hW1]; exact (Below.refl _ _).alloc (Nat.le_refl _) _
  have d0 : W0.cell? ⟨w.heap.size, 0, none⟩ = some (.int .i64 x) := by rw [← hW0, World.cell?_alloc_at _ _ _ _ rfl]; rfl
  have d1 : W0.cell? ⟨w.heap.size, 1, none⟩ = some (.int .i64 k) := by rw [← hW0, World.cell?_alloc_at _ _ _ _ rfl]; rfl
  have d2 : W0.cell? ⟨w.heap.size, 2, none⟩ = some (.int .i64 n) := by rw [← hW0, World.cell?_alloc_at _ _ _ _ rfl]; rfl
  have d3 : W0.cell? ⟨w.heap.size, 3, none⟩ = some (.slice Aa ats.length ca) := by rw [← hW0, World.cell?_alloc_at _ _ _ _ rfl]; rfl
  have d4 : W0.cell? ⟨w.heap.size, 4, none⟩ = some (.slice Ak ks.length ck) := by rw [← hW0, World.cell?_alloc_at _ _ _ _ rfl]; rfl
  have d5 : W0.cell? ⟨w.heap.size, 5, none⟩ = some (.slice Al nb cb) := by rw [← hW0, World.cell?_alloc_at _ _ _ _ rfl]; rfl
  have hR : RhsAt W0 W1 W0.heap.size k n Aa Ak Al ats.length ca ks.length ck nb cb := by rw [← hW1]; exact RhsAt.new _ _ _ _ _ _ _ _ _ _ _ _
  have HR := Lib.hid (fun (V : World) (hV : Below W1.heap.size W1 V) => hR.behind hV)
  obtain ⟨c0, c1, c2, c3, c4, cl⟩ := hR
  have g0 : W1.cell? ⟨w.heap.size, 0, none⟩ = some (.int .i64 x) := (hb1.cell (p := ⟨w.heap.size, 0, none⟩) hs0).trans d0
  have hB := hb0.trans (hb1.mono hb0.size)
  have cc : w.cell? ⟨cb_, 0, none⟩ = some (.int .i64 (nf : Int)) := by simp [World.cell?, hc]
  have cn : W1.cell? ⟨cb_, 0, none⟩ = some (.int .i64 (nf : Int)) := cell_behind hB cc
  have hw1 : IntKind.i64.wrap ((nf : Int) - 1) = (nf : Int) - 1 := by rw [IntKind.wrap_i64]; omega
  have HCON := Lib.hid (fun (V : World) (hV : Below w.heap.size w V) => (contains_num (W := V) (ats := ats) (Aa := Aa) (ca := ca) ((ha.below hV).mono hV.size) hac (fun a => !atomB a) (fun a _ V' hV' => number1_any a.v a.n V')).mono (R' := fun e V' => e = .returned (.bool (ats.any fun a => !atomB a)) ∧ Below w.heap.size w V') fun e V' h => ⟨h.1, hV.trans (h.2.mono hV.size)⟩)
  have HGR := Lib.hid (fun (V : World) (hV : Below w.heap.size w V) => cgroup_any k n Aa Ak Al ats.length ca ck nb cb ks V ((hk.below hV).mono hV.size) hkc)
  have HB := Lib.hid hB
  clear hb0 hb1 hB cc hc ha hk
  obtain ⟨out, hout⟩ : ∃ o, numberB nf x k n ats ks = o := ⟨_, rfl⟩
  rw [hout]
  have HO := Lib.hid (show out = (varB x && ats.all atomB) from hout.symm.trans (by obtain ⟨h3, h4, h9, h10⟩ := hk0; have h10' : (k != 10) = true := (by simpa using h10); simp [numberB, h3, h4, h9, h10']))
  clear hout hk0
  cases h1 : varB x
  · have HF := Lib.hid (show out = false from HO.out.trans (by rw [h1]; rfl))
    go_enter Try.func59, Try.ntmps59
    go_wp2_with (first | (go_at_call 30; refine (variable_any _ _).mono ?_; rintro en w' ⟨rfl, rfl⟩) | (go_at_call 43; refine (within_any _ _ _ _).mono ?_; rintro en w' ⟨rfl, rfl⟩))
    go_ret
    exact ⟨ret_bool HF.out.symm, HB.out⟩
  · have HT := Lib.hid (show out = ats.all atomB from HO.out.trans (by rw [h1]; simp))
    go_enter Try.func59, Try.ntmps59
    go_wp2_with (first | (go_at_call 30; refine (variable_any _ _).mono ?_; rintro en w' ⟨rfl, rfl⟩) | (go_at_call 43; refine (within_any _ _ _ _).mono ?_; rintro en w' ⟨rfl, rfl⟩))
    refine (HCON.out _ (HB.out)).mono ?_
    rintro en w' ⟨rfl, hb⟩
    have HB2 := Lib.hid hb
    clear hb
    go_wp2_with fail
    go_ret
    exact ⟨ret_bool (by rw [HT.out]; exact all_of_any ats), HB2.out⟩
set_option maxRecDepth 100000 in
set_option maxHeartbeats 2000000 in
include hnf hc ha hac hk hkc in
theorem cnum_group : Calls Try.prog 59 #[.pointer (some ⟨cb_, 0, none⟩), .agg #[.int .i64 x, .int .i64 10, .int .i64 n, .slice Aa ats.length ca, .slice Ak ks.length ck, .slice Al nb cb]] w fun e w' => e = .returned (.bool (numberB nf x 10 n ats ks)) ∧ Below w.heap.size w w' := by
  obtain ⟨W0, hW0⟩ : ∃ W0, w.alloc (.cells #[.int .i64 x, .int .i64 10, .int .i64 n, .slice Aa ats.length ca, .slice Ak ks.length ck, .slice Al nb cb] 54) = W0 := ⟨_, rfl⟩
  have hb0 : Below w.heap.size w W0 := by rw [← hW0]; exact (Below.refl _ _).alloc (Nat.le_refl _) _
  have hs0 : w.heap.size < W0.heap.size := by rw [← hW0]; simp
  obtain ⟨W1, hW1⟩ : ∃ W1, W0.alloc (.cells #[.int .i64 10, .int .i64 n, .slice Aa ats.length ca, .slice Ak ks.length ck, .slice Al nb cb] 52) = W1 := ⟨_, rfl⟩
  have hb1 : Below W0.heap.size W0 W1 := by rw [← hW1]; exact (Below.refl _ _).alloc (Nat.le_refl _) _
  have d0 : W0.cell? ⟨w.heap.size, 0, none⟩ = some (.int .i64 x) := by rw [← hW0, World.cell?_alloc_at _ _ _ _ rfl]; rfl
  have d1 : W0.cell? ⟨w.heap.size, 1, none⟩ = some (.int .i64 10) := by rw [← hW0, World.cell?_alloc_at _ _ _ _ rfl]; rfl
  have d2 : W0.cell? ⟨w.heap.size, 2, none⟩ = some (.int .i64 n) := by rw [← hW0, World.cell?_alloc_at _ _ _ _ rfl]; rfl
  have d3 : W0.cell? ⟨w.heap.size, 3, none⟩ = some (.slice Aa ats.length ca) := by rw [← hW0, World.cell?_alloc_at _ _ _ _ rfl]; rfl
  have d4 : W0.cell? ⟨w.heap.size, 4, none⟩ = some (.slice Ak ks.length ck) := by rw [← hW0, World.cell?_alloc_at _ _ _ _ rfl]; rfl
  have d5 : W0.cell? ⟨w.heap.size, 5, none⟩ = some (.slice Al nb cb) := by rw [← hW0, World.cell?_alloc_at _ _ _ _ rfl]; rfl
  have hR : RhsAt W0 W1 W0.heap.size 10 n Aa Ak Al ats.length ca ks.length ck nb cb := by rw [← hW1]; exact RhsAt.new _ _ _ _ _ _ _ _ _ _ _ _
  have HR := Lib.hid (fun (V : World) (hV : Below W1.heap.size W1 V) => hR.behind hV)
  obtain ⟨c0, c1, c2, c3, c4, cl⟩ := hR
  have g0 : W1.cell? ⟨w.heap.size, 0, none⟩ = some (.int .i64 x) := (hb1.cell (p := ⟨w.heap.size, 0, none⟩) hs0).trans d0
  have hB := hb0.trans (hb1.mono hb0.size)
  have cc : w.cell? ⟨cb_, 0, none⟩ = some (.int .i64 (nf : Int)) := by simp [World.cell?, hc]
  have cn : W1.cell? ⟨cb_, 0, none⟩ = some (.int .i64 (nf : Int)) := cell_behind hB cc
  have hw1 : IntKind.i64.wrap ((nf : Int) - 1) = (nf : Int) - 1 := by rw [IntKind.wrap_i64]; omega
  have HCON := Lib.hid (fun (V : World) (hV : Below w.heap.size w V) => (contains_num (W := V) (ats := ats) (Aa := Aa) (ca := ca) ((ha.below hV).mono hV.size) hac (fun a => !atomB a) (fun a _ V' hV' => number1_any a.v a.n V')).mono (R' := fun e V' => e = .returned (.bool (ats.any fun a => !atomB a)) ∧ Below w.heap.size w V') fun e V' h => ⟨h.1, hV.trans (h.2.mono hV.size)⟩)
  have HGR := Lib.hid (fun (V : World) (hV : Below w.heap.size w V) => cgroup_any 10 n Aa Ak Al ats.length ca ck nb cb ks V ((hk.below hV).mono hV.size) hkc)
  have HB := Lib.hid hB
  clear hb0 hb1 hB cc hc ha hk
  obtain ⟨out, hout⟩ : ∃ o, numberB nf x 10 n ats ks = o := ⟨_, rfl⟩
  rw [hout]
  have HO := Lib.hid (show out = (varB x && (groupV ks).all varB && ats.all atomB) from hout.symm.trans (by simp [numberB]))
  clear hout
  have HVX := Lib.hid (rfl : varB x = varB x)
  go_enter Try.func59, Try.ntmps59
  go_wp2_with (first | (go_at_call 30; refine (variable_any _ _).mono ?_; rintro en w' ⟨rfl, rfl⟩) | (go_at_call 43; refine (within_any _ _ _ _).mono ?_; rintro en w' ⟨rfl, rfl⟩))
  refine (HGR.out _ HB.out).mono ?_
  rintro en w2 ⟨A, c, rfl, hi, hlc, hb2⟩
  have HR2 := Lib.hid (fun (V : World) (hV : Below w2.heap.size w2 V) => HR.out V (hb2.trans (hV.mono hb2.size)))
  have HW2 := Lib.hid (HB.out.trans (hb2.mono HB.out.size))
  have HK := Lib.hid (fun (j : Nat) (hj : j < (groupV ks).length) => (show ∃ b o, A = some ⟨b, o, none⟩ ∧ w2.cell? ⟨b, o + j, none⟩ = some (.int .i64 (nth (groupV ks) j)) from by
    obtain ⟨b, o, h1, h2, h3⟩ := hi.at_ (by omega)
    exact ⟨b, o, h1, h3 j hj⟩))
  have h64 := hi.1
  have k0 := (HR2.out w2 (Below.refl _ _)).c0
  have k2 := (HR2.out w2 (Below.refl _ _)).c2
  clear hi hb2 HR HGR
  obtain ⟨G, hG⟩ : ∃ G, groupV ks = G := ⟨_, rfl⟩
  rw [hG] at hlc HK h64 HO ⊢
  clear hG
  obtain ⟨M, hM⟩ : ∃ M, G.length = M := ⟨_, rfl⟩
  have HM := Lib.hid hM
  rw [hM] at hlc HK h64 ⊢
  clear hM
  go_wp2_with fail
  go_loopw [6, 20] (fun ov iv wr => ∃ j : Nat, j ≤ M ∧ iv = .int .i64 (j : Int) ∧ ov = .bool (varB x && (G.take j).all varB) ∧ w2 = wr) (fun _ iv _ => M + 1 - (intOf iv).toNat)
  case atStart => exact ⟨0, by omega, rfl, by simp, rfl⟩
  case round =>
    obtain ⟨j, hj, rfl, rfl, rfl⟩ := hrel
    by_cases hlt : j < M
    · obtain ⟨b, o, rfl, qk⟩ := HK.out j hlt
      have e1 : (0 : Int) ≤ (j : Int) := by omega
      have e2 : (j : Int) < (M : Int) := by omega
      have e4 : IntKind.i64.wrap ((j : Int) + 1) = (j : Int) + 1 := by rw [IntKind.wrap_i64]; omega
      have e5 : (M : Int) ≤ (c : Int) := by omega
      have hstep : (varB x && (G.take (j + 1)).all varB) = ((varB x && (G.take j).all varB) && varB (nth G j)) := by
        rw [take_snoc G (by rw [HM.out]; exact hlt)]
        simp only [List.all_append, List.all_cons, List.all_nil, Bool.and_true, Bool.and_assoc]
      have HSTEP := Lib.hid hstep
      clear hstep
      obtain ⟨q, hq⟩ : ∃ q, (varB x && (G.take j).all varB) = q := ⟨_, rfl⟩
      rw [hq] at HSTEP ⊢
      clear hq
      cases q
      all_goals
        go_wp2_with (first | (go_at_call 30; refine (variable_any _ _).mono ?_; rintro en w' ⟨rfl, rfl⟩) | (go_at_call 43; refine (within_any _ _ _ _).mono ?_; rintro en w' ⟨rfl, rfl⟩))
        go_roundw
        case rel => exact ⟨j + 1, by omega, by go_num, by rw [HSTEP.out]; simp, (by first | rfl | trivial)⟩
        case measure => simp [intOf]; omega
    · have e2 : ¬ (j : Int) < (M : Int) := by omega
      have hfin : G.take j = G := List.take_of_length_le (by rw [HM.out]; omega)
      rw [hfin] at *
      obtain ⟨q, hq⟩ : ∃ q, (varB x && G.all varB) = q := ⟨_, rfl⟩
      rw [hq] at HO ⊢
      clear hq hfin
      cases q
      · have HF := Lib.hid (show out = false from HO.out)
        go_wp2_with (first | (go_at_call 30; refine (variable_any _ _).mono ?_; rintro en w' ⟨rfl, rfl⟩) | (go_at_call 43; refine (within_any _ _ _ _).mono ?_; rintro en w' ⟨rfl, rfl⟩))
        go_ret
        exact ⟨ret_bool HF.out.symm, HW2.out⟩
      · have HT := Lib.hid (show out = ats.all atomB from HO.out.trans (by simp))
        go_wp2_with (first | (go_at_call 30; refine (variable_any _ _).mono ?_; rintro en w' ⟨rfl, rfl⟩) | (go_at_call 43; refine (within_any _ _ _ _).mono ?_; rintro en w' ⟨rfl, rfl⟩))
        refine (HCON.out _ (HW2.out)).mono ?_
        rintro en w' ⟨rfl, hb⟩
        have HB2 := Lib.hid hb
        clear hb
        go_wp2_with fail
        go_ret
        exact ⟨ret_bool (by rw [HT.out]; exact all_of_any ats), HB2.out⟩
include hnf hc ha hac hk hkc in
theorem cnumb_any (k : Int) : Calls Try.prog 59 #[.pointer (some ⟨cb_, 0, none⟩), .agg #[.int .i64 x, .int .i64 k, .int .i64 n, .slice Aa ats.length ca, .slice Ak ks.length ck, .slice Al nb cb]] w fun e w' => e = .returned (.bool (numberB nf x k n ats ks)) ∧ Below w.heap.size w w' := by
  by_cases h3 : k = 3
  · subst h3; exact cnum_block hnf x n hc ha hac hk hkc
  by_cases h4 : k = 4
  · subst h4; exact cnum_field hnf x n hc ha hac hk hkc
  by_cases h9 : k = 9
  · subst h9; exact cnum_close hnf x n hc ha hac hk hkc
  by_cases h10 : k = 10
  · subst h10; exact cnum_group hnf x n hc ha hac hk hkc
  exact cnum_other hnf x n hc ha hac hk hkc k ⟨h3, h4, h9, h10⟩
end
end Go.Proofs.Ytnobggabjpcbfaa

/-
  clos: bind.
-/
set_option linter.unusedVariables false
set_option linter.unusedSimpArgs false
namespace Go.Proofs.Ytnobggabjpcbfaa
open Go.RowKit

section
variable {cb_ mb nf : Nat} (hnf : nf ≤ 1000000) (x k n : Int) {Aa Ak Al : Option Addr} {ca ck nb cb : Nat} {ats : List Atm} {ks : List Int} {w : World} (hc : w.heap[cb_]? = some (.cells #[.int .i64 (nf : Int), .map (some mb)] 71 (0, 0))) (ha : AtomsIn w.heap.size w Aa ats) (hac : ats.length ≤ ca) (hk : IntsIn w.heap.size w Ak ks) (hkc : ks.length ≤ ck)
set_option maxRecDepth 100000 in
set_option maxHeartbeats 4000000 in
include hnf hc ha hac hk hkc in
theorem cbind_any : Calls Try.prog 44 #[.pointer (some ⟨cb_, 0, none⟩), .agg #[.int .i64 x, .int .i64 k, .int .i64 n, .slice Aa ats.length ca, .slice Ak ks.length ck, .slice Al nb cb]] w fun e w' => e = .returned (.int .i64 (bindE nf x k n ats ks nb)) ∧ Below w.heap.size w w' := by
  obtain ⟨W0, hW0⟩ : ∃ W0, w.alloc (.cells #[.int .i64 x, .int .i64 k, .int .i64 n, .slice Aa ats.length ca, .slice Ak ks.length ck, .slice Al nb cb] 54) = W0 := ⟨_, rfl⟩
  have hb0 : Below w.heap.size w W0 := by rw [← hW0]; exact (Below.refl _ _).alloc (Nat.le_refl _) _
  have hs0 : w.heap.size < W0.heap.size := by rw [← hW0]; simp
  obtain ⟨W1, hW1⟩ : ∃ W1, W0.alloc (.cells #[.int .i64 k, .int .i64 n, .slice Aa ats.length ca, .slice Ak ks.length ck, .slice Al nb cb] 52) = W1 := ⟨_, rfl⟩
  have hb1 : Below W0.heap.size W0 W1 := by rw [← hW1]; exact (Below.refl _ _).alloc (Nat.le_refl _) _
  have d0 : W0.cell? ⟨w.heap.size, 0, none⟩ = some (.int .i64 x) := by rw [← hW0, World.cell?_alloc_at _ _ _ _ rfl]; rfl
  have d1 : W0.cell? ⟨w.heap.size, 1, none⟩ = some (.int .i64 k) := by rw [← hW0, World.cell?_alloc_at _ _ _ _ rfl]; rfl
  have d2 : W0.cell? ⟨w.heap.size, 2, none⟩ = some (.int .i64 n) := by rw [← hW0, World.cell?_alloc_at _ _ _ _ rfl]; rfl
  have d3 : W0.cell? ⟨w.heap.size, 3, none⟩ = some (.slice Aa ats.length ca) := by rw [← hW0, World.cell?_alloc_at _ _ _ _ rfl]; rfl
  have d4 : W0.cell? ⟨w.heap.size, 4, none⟩ = some (.slice Ak ks.length ck) := by rw [← hW0, World.cell?_alloc_at _ _ _ _ rfl]; rfl
  have d5 : W0.cell? ⟨w.heap.size, 5, none⟩ = some (.slice Al nb cb) := by rw [← hW0, World.cell?_alloc_at _ _ _ _ rfl]; rfl
  have hR : RhsAt W0 W1 W0.heap.size k n Aa Ak Al ats.length ca ks.length ck nb cb := by rw [← hW1]; exact RhsAt.new _ _ _ _ _ _ _ _ _ _ _ _
  have HR := Lib.hid (fun (V : World) (hV : Below W1.heap.size W1 V) => (show (V.cell? ⟨W0.heap.size, 0, none⟩ = some (.int .i64 k) ∧ V.cell? ⟨W0.heap.size, 1, none⟩ = some (.int .i64 n) ∧ V.cell? ⟨W0.heap.size, 2, none⟩ = some (.slice Aa ats.length ca) ∧ V.cell? ⟨W0.heap.size, 3, none⟩ = some (.slice Ak ks.length ck) ∧ V.cell? ⟨W0.heap.size, 4, none⟩ = some (.slice Al nb cb)) ∧
      (V.cell? ⟨w.heap.size, 0, none⟩ = some (.int .i64 x) ∧ V.cell? ⟨w.heap.size, 1, none⟩ = some (.int .i64 k) ∧ V.cell? ⟨w.heap.size, 2, none⟩ = some (.int .i64 n) ∧ V.cell? ⟨w.heap.size, 3, none⟩ = some (.slice Aa ats.length ca) ∧ V.cell? ⟨w.heap.size, 4, none⟩ = some (.slice Ak ks.length ck) ∧ V.cell? ⟨w.heap.size, 5, none⟩ = some (.slice Al nb cb)) from by
    have h := hR.behind hV
    have hb := hb1.trans (hV.mono hb1.size)
    exact ⟨⟨h.c0, h.c1, h.c2, h.c3, h.c4⟩, (hb.cell (p := ⟨w.heap.size, 0, none⟩) hs0).trans d0, (hb.cell (p := ⟨w.heap.size, 1, none⟩) hs0).trans d1, (hb.cell (p := ⟨w.heap.size, 2, none⟩) hs0).trans d2, (hb.cell (p := ⟨w.heap.size, 3, none⟩) hs0).trans d3, (hb.cell (p := ⟨w.heap.size, 4, none⟩) hs0).trans d4, (hb.cell (p := ⟨w.heap.size, 5, none⟩) hs0).trans d5⟩))
  have hB := hb0.trans (hb1.mono hb0.size)
  have hw2 : ∀ V : World, Below W1.heap.size W1 V → Below w.heap.size w V := fun V hV => hB.trans (hV.mono hB.size)
  have HW := Lib.hid hw2
  have hcV : ∀ V : World, Below w.heap.size w V → V.heap[cb_]? = some (.cells #[.int .i64 (nf : Int), .map (some mb)] 71 (0, 0)) := fun V hV => (hV.block cb_ (Array.getElem?_eq_some_iff.1 hc).1).trans hc
  have HBA := Lib.hid (fun (V : World) => bare_any k n Aa Ak Al ats.length ca ks.length ck nb cb V)
  have HNU := Lib.hid (fun (V : World) (hV : Below W1.heap.size W1 V) => cnumb_any hnf x n (Al := Al) (nb := nb) (cb := cb) (hcV V (hw2 V hV)) ((ha.below (hw2 V hV)).mono (hw2 V hV).size) hac ((hk.below (hw2 V hV)).mono (hw2 V hV).size) hkc k)
  have HCO := Lib.hid (fun (V : World) (hV : Below W1.heap.size W1 V) => count_any x n Aa Ak Al ats.length ca ck nb cb ks V k ((hk.below (hw2 V hV)).mono (hw2 V hV).size) hkc)
  have HFU := Lib.hid (fun (V : World) (hV : Below W1.heap.size W1 V) => functions_any hnf k n Aa Ak Al ats.length ca ck nb cb ks V (hcV V (hw2 V hV)) ((hk.below (hw2 V hV)).mono (hw2 V hV).size) hkc)
  have HRI := Lib.hid (fun (V : World) (hV : Below W1.heap.size W1 V) => rising_any Ak ck ks V ((hk.below (hw2 V hV)).mono (hw2 V hV).size) hkc)
  obtain ⟨⟨c0, c1, c2, c3, c4⟩, -⟩ := HR.out W1 (Below.refl _ _)
  clear hb0 hb1 hB hc ha hk hcV hw2 hR
  obtain ⟨out, hout⟩ : ∃ o, bindE nf x k n ats ks nb = o := ⟨_, rfl⟩
  rw [hout]
  have HO := Lib.hid (show out = (if bareB k n ats.length ks.length nb = false then 29 else if numberB nf x k n ats ks = false then 2 else if k = 2 ∧ inB n 1 16 = false then 28 else if countB x k n ats.length ks nb = false then 19 else if k = 10 ∧ funsB nf ks = false then 2 else if k = 8 ∧ risingB ks = false then 3 else 0) from hout.symm)
  clear hout
  go_enter Try.func44, Try.ntmps44
  go_wp2_with fail
  refine (HBA.out W1).mono ?_
  rintro en w2 ⟨rfl, hb2⟩
  obtain ⟨⟨p0, p1, p2, p3, p4⟩, p5, p6, p7, p8, p9, p10⟩ := HR.out w2 hb2
  have HN2 := Lib.hid (HNU.out w2 hb2)
  have HB2 := Lib.hid hb2
  clear hb2 HNU HBA
  cases h1 : bareB k n ats.length ks.length nb
  · have HF := Lib.hid (show out = 29 from HO.out.trans (by rw [if_pos h1]))
    go_wp2_with fail
    go_ret
    exact ⟨ret_int HF.out.symm, HW.out _ HB2.out⟩
  have ho2 := HO.out
  rw [if_neg (by rw [h1]; decide)] at ho2
  have HO2 := Lib.hid ho2
  clear ho2 h1 HO
  go_wp2_with fail
  refine HN2.out.mono ?_
  rintro en w3 ⟨rfl, hb3⟩
  have hb3' := HB2.out.trans (hb3.mono HB2.out.size)
  obtain ⟨⟨q0, q1, q2, q3, q4⟩, q5, q6, q7, q8, q9, q10⟩ := HR.out w3 hb3'
  have HC3 := Lib.hid (HCO.out w3 hb3')
  have HB3 := Lib.hid hb3'
  clear hb3 hb3' HN2 HB2 HCO p0 p1 p2 p3 p4 p5 p6 p7 p8 p9 p10
  cases h1 : numberB nf x k n ats ks
  · have HF := Lib.hid (show out = 2 from HO2.out.trans (by rw [if_pos h1]))
    go_wp2_with fail
    go_ret
    exact ⟨ret_int HF.out.symm, HW.out _ HB3.out⟩
  have ho3 := HO2.out
  rw [if_neg (by rw [h1]; decide)] at ho3
  have HO3 := Lib.hid ho3
  clear ho3 h1 HO2
  by_cases hbad : k = 2 ∧ inB n 1 16 = false
  · have HF := Lib.hid (show out = 28 from HO3.out.trans (by rw [if_pos hbad]))
    obtain ⟨hk2, hin⟩ := hbad
    have e2 : (k == 2) = true := by simpa using hk2
    clear hk2
    go_wp2_with (go_at_call 43; refine (within_any _ _ _ _).mono ?_; rintro en w' ⟨rfl, rfl⟩)
    go_ret
    exact ⟨ret_int HF.out.symm, HW.out _ HB3.out⟩
  have ho4 := HO3.out
  rw [if_neg hbad] at ho4
  have HO4 := Lib.hid ho4
  clear ho4 HO3
  have hcase : (k == 2) = false ∨ ((k == 2) = true ∧ inB n 1 16 = true) := by
    by_cases hk2 : k = 2
    · right
      refine ⟨by simpa using hk2, ?_⟩
      cases h : inB n 1 16
      · exact absurd ⟨hk2, h⟩ hbad
      · rfl
    · left; simpa using hk2
  clear hbad
  rcases hcase with e2 | ⟨e2, hin⟩
  · go_wp2_with fail
    refine HC3.out.mono ?_
    rintro en w4 ⟨rfl, hb4⟩
    have hb4' := HB3.out.trans (hb4.mono HB3.out.size)
    obtain ⟨⟨r0, r1, r2, r3, r4⟩, r5, r6, r7, r8, r9, r10⟩ := HR.out w4 hb4'
    have HFU4 := Lib.hid (HFU.out w4 hb4')
    have HRI4 := Lib.hid (HRI.out w4 hb4')
    have HB4 := Lib.hid hb4'
    clear hb4 hb4' HC3 HB3 HFU q0 q1 q2 q3 q4 q5 q6 q7 q8 q9 q10 e2
    cases h1 : countB x k n ats.length ks nb
    · have HF := Lib.hid (show out = 19 from HO4.out.trans (by rw [if_pos h1]))
      go_wp2_with fail
      go_ret
      exact ⟨ret_int HF.out.symm, HW.out _ HB4.out⟩
    have ho5 := HO4.out
    rw [if_neg (by rw [h1]; decide)] at ho5
    have HO5 := Lib.hid ho5
    clear ho5 h1 HO4
    cases e10 : (k == 10)
    · have hk10 : ¬ (k = 10 ∧ funsB nf ks = false) := by simp at e10; exact fun h => e10 h.1
      have ho6 := HO5.out
      rw [if_neg hk10] at ho6
      have HO6 := Lib.hid ho6
      clear ho6 hk10 HO5
      cases e8 : (k == 8)
      · have HF := Lib.hid (show out = 0 from HO6.out.trans (by simp at e8; rw [if_neg (fun h => e8 h.1)]))
        go_wp2_with fail
        go_ret
        exact ⟨ret_int HF.out.symm, HW.out _ HB4.out⟩
      · cases hri : risingB ks
        · have HF := Lib.hid (show out = 3 from HO6.out.trans (by simp at e8; rw [if_pos ⟨e8, hri⟩]))
          rw [hri] at HRI4
          go_wp2_with (go_at_call 62; refine HRI4.out.mono ?_; rintro en w' ⟨rfl, rfl⟩)
          go_ret
          exact ⟨ret_int HF.out.symm, HW.out _ HB4.out⟩
        · have HF := Lib.hid (show out = 0 from HO6.out.trans (by rw [if_neg (fun h => by rw [hri] at h; exact absurd h.2 (by decide))]))
          rw [hri] at HRI4
          go_wp2_with (go_at_call 62; refine HRI4.out.mono ?_; rintro en w' ⟨rfl, rfl⟩)
          go_ret
          exact ⟨ret_int HF.out.symm, HW.out _ HB4.out⟩
    · have e8 : (k == 8) = false := by simp at e10 ⊢; omega
      cases hfu : funsB nf ks
      · have HF := Lib.hid (show out = 2 from HO5.out.trans (by simp at e10; rw [if_pos ⟨e10, hfu⟩]))
        rw [hfu] at HFU4
        go_wp2_with (go_at_call 61; refine HFU4.out.mono ?_; rintro en w5 ⟨rfl, hb5⟩)
        go_ret
        exact ⟨ret_int HF.out.symm, HW.out _ (HB4.out.trans (hb5.mono HB4.out.size))⟩
      · have HF := Lib.hid (show out = 0 from HO5.out.trans (by simp at e10; rw [if_neg (fun h => by rw [hfu] at h; exact absurd h.2 (by decide)), if_neg (by omega)]))
        rw [hfu] at HFU4
        have HR5 := Lib.hid (fun (V : World) (hV : Below w4.heap.size w4 V) => (HR.out V (HB4.out.trans (hV.mono HB4.out.size))).1.1)
        go_wp2_with (go_at_call 61; refine HFU4.out.mono ?_; rintro en w5 ⟨rfl, hb5⟩; have s0 := HR5.out w5 hb5)
        go_ret
        exact ⟨ret_int HF.out.symm, HW.out _ (HB4.out.trans (hb5.mono HB4.out.size))⟩
  · go_wp2_with (go_at_call 43; refine (within_any _ _ _ _).mono ?_; rintro en w' ⟨rfl, rfl⟩)
    refine HC3.out.mono ?_
    rintro en w4 ⟨rfl, hb4⟩
    have hb4' := HB3.out.trans (hb4.mono HB3.out.size)
    obtain ⟨⟨r0, r1, r2, r3, r4⟩, r5, r6, r7, r8, r9, r10⟩ := HR.out w4 hb4'
    have HFU4 := Lib.hid (HFU.out w4 hb4')
    have HRI4 := Lib.hid (HRI.out w4 hb4')
    have HB4 := Lib.hid hb4'
    clear hb4 hb4' HC3 HB3 HFU q0 q1 q2 q3 q4 q5 q6 q7 q8 q9 q10 e2 hin
    cases h1 : countB x k n ats.length ks nb
    · have HF := Lib.hid (show out = 19 from HO4.out.trans (by rw [if_pos h1]))
      go_wp2_with fail
      go_ret
      exact ⟨ret_int HF.out.symm, HW.out _ HB4.out⟩
    have ho5 := HO4.out
    rw [if_neg (by rw [h1]; decide)] at ho5
    have HO5 := Lib.hid ho5
    clear ho5 h1 HO4
    cases e10 : (k == 10)
    · have hk10 : ¬ (k = 10 ∧ funsB nf ks = false) := by simp at e10; exact fun h => e10 h.1
      have ho6 := HO5.out
      rw [if_neg hk10] at ho6
      have HO6 := Lib.hid ho6
      clear ho6 hk10 HO5
      cases e8 : (k == 8)
      · have HF := Lib.hid (show out = 0 from HO6.out.trans (by simp at e8; rw [if_neg (fun h => e8 h.1)]))
        go_wp2_with fail
        go_ret
        exact ⟨ret_int HF.out.symm, HW.out _ HB4.out⟩
      · cases hri : risingB ks
        · have HF := Lib.hid (show out = 3 from HO6.out.trans (by simp at e8; rw [if_pos ⟨e8, hri⟩]))
          rw [hri] at HRI4
          go_wp2_with (go_at_call 62; refine HRI4.out.mono ?_; rintro en w' ⟨rfl, rfl⟩)
          go_ret
          exact ⟨ret_int HF.out.symm, HW.out _ HB4.out⟩
        · have HF := Lib.hid (show out = 0 from HO6.out.trans (by rw [if_neg (fun h => by rw [hri] at h; exact absurd h.2 (by decide))]))
          rw [hri] at HRI4
          go_wp2_with (go_at_call 62; refine HRI4.out.mono ?_; rintro en w' ⟨rfl, rfl⟩)
          go_ret
          exact ⟨ret_int HF.out.symm, HW.out _ HB4.out⟩
    · have e8 : (k == 8) = false := by simp at e10 ⊢; omega
      cases hfu : funsB nf ks
      · have HF := Lib.hid (show out = 2 from HO5.out.trans (by simp at e10; rw [if_pos ⟨e10, hfu⟩]))
        rw [hfu] at HFU4
        go_wp2_with (go_at_call 61; refine HFU4.out.mono ?_; rintro en w5 ⟨rfl, hb5⟩)
        go_ret
        exact ⟨ret_int HF.out.symm, HW.out _ (HB4.out.trans (hb5.mono HB4.out.size))⟩
      · have HF := Lib.hid (show out = 0 from HO5.out.trans (by simp at e10; rw [if_neg (fun h => by rw [hfu] at h; exact absurd h.2 (by decide)), if_neg (by omega)]))
        rw [hfu] at HFU4
        have HR5 := Lib.hid (fun (V : World) (hV : Below w4.heap.size w4 V) => (HR.out V (HB4.out.trans (hV.mono HB4.out.size))).1.1)
        go_wp2_with (go_at_call 61; refine HFU4.out.mono ?_; rintro en w5 ⟨rfl, hb5⟩; have s0 := HR5.out w5 hb5)
        go_ret
        exact ⟨ret_int HF.out.symm, HW.out _ (HB4.out.trans (hb5.mono HB4.out.size))⟩
end
end Go.Proofs.Ytnobggabjpcbfaa

/-
  clos: the map of what is known.
-/
set_option linter.unusedVariables false
set_option linter.unusedSimpArgs false
namespace Go.Proofs.Ytnobggabjpcbfaa
open Go.RowKit Go.Maps

theorem undInt : Try.prog.underlying 3 = some (.int .i64) := by kernel_rfl
theorem undMap : Try.prog.underlying 69 = some (.map 3 3) := by kernel_rfl
theorem lawInt : Keyed Try.prog 3 := int_keyed undInt
theorem zeroInt (w : World) : (zeroValue 3).run Try.prog w = .ok (.int .i64 0) w := by kernel_rfl
def In64 (n : Int) : Prop := (Lit.int .i64 n).wf = true
theorem in64_small {n : Int} (h1 : -1000000000000000000 ≤ n) (h2 : n ≤ 1000000000000000000) : In64 n := WalkArith.wf_i64 (by omega)
/-- what is known, in memory: the checker at block cb_, its map at block mb, of at most n entries -/
structure KnownIn (cb_ mb nf n : Nat) (kn : List Int) (W : World) : Prop where
  chk : W.heap[cb_]? = some (.cells #[.int .i64 (nf : Int), .map (some mb)] 71 (0, 0))
  ne : cb_ ≠ mb
  map : ∃ D : DataW Unit, W.ownsMap Try.prog 3 (plainElem Try.prog 3) mb n D ∧ ∀ v, In64 v → D.atKey (.int .i64 v) (.lit (.int .i64 0)) = .lit (.int .i64 (kn.count v : Int))
section
variable {cb_ mb nf n : Nat} {kn : List Int} {W V : World}
theorem KnownIn.mono (h : KnownIn cb_ mb nf n kn W) {n' : Nat} (hn : n ≤ n') : KnownIn cb_ mb nf n' kn W := ⟨h.chk, h.ne, by obtain ⟨D, h1, h2⟩ := h.map; exact ⟨D, h1.mono hn, h2⟩⟩
theorem KnownIn.count (h : KnownIn cb_ mb nf n kn W) {kn' : List Int} (hk : ∀ v, kn'.count v = kn.count v) : KnownIn cb_ mb nf n kn' W := ⟨h.chk, h.ne, by obtain ⟨D, h1, h2⟩ := h.map; exact ⟨D, h1, fun v hv => by rw [h2 v hv, hk v]⟩⟩
theorem KnownIn.lt (h : KnownIn cb_ mb nf n kn W) : cb_ < W.heap.size ∧ mb < W.heap.size := ⟨(Array.getElem?_eq_some_iff.1 h.chk).1, by obtain ⟨D, h1, _⟩ := h.map; exact h1.lt⟩
theorem KnownIn.below (h : KnownIn cb_ mb nf n kn W) (hb : Below W.heap.size W V) : KnownIn cb_ mb nf n kn V := by
  refine ⟨(hb.block cb_ h.lt.1).trans h.chk, h.ne, ?_⟩
  obtain ⟨D, h1, h2⟩ := h.map
  exact ⟨D, h1.kept (row := none) ⟨hb.os, hb.tape, hb.output, hb.size, fun i hi _ => hb.block i hi⟩ (by simp), h2⟩
/-- only the map may have turned -/
def Turned (mb : Nat) (W V : World) : Prop := W.grownBy V (some mb)
theorem Turned.refl (mb : Nat) (W : World) : Turned mb W W := ⟨rfl, rfl, rfl, Nat.le_refl _, fun _ _ _ => rfl⟩
theorem Turned.trans {a b c : World} (h : Turned mb a b) (k : Turned mb b c) : Turned mb a c := ⟨k.os.trans h.os, k.tape.trans h.tape, k.output.trans h.output, Nat.le_trans h.size k.size, fun i hi hn => (k.block i (Nat.lt_of_lt_of_le hi h.size) hn).trans (h.block i hi hn)⟩
theorem Turned.of_below {a b : World} (h : Below a.heap.size a b) : Turned mb a b := ⟨h.os, h.tape, h.output, h.size, fun i hi _ => h.block i hi⟩
/-- what lies below the map stays -/
theorem Turned.below {a b : World} (h : Turned mb a b) {B : Nat} (hB : B ≤ mb) (hB2 : B ≤ a.heap.size) : Below B a b := ⟨h.os, h.tape, h.output, h.size, fun i hi => h.block i (by omega) (by simp; omega)⟩
theorem Turned.cell {a b : World} (h : Turned mb a b) {q o : Nat} (hq : q ≠ mb) {v : Value} (hc : a.cell? ⟨q, o, none⟩ = some v) : b.cell? ⟨q, o, none⟩ = some v :=
  (World.cell?_of_block (w := a) (h.block q (World.block_lt_of_cell? _ _ hc) (by simp; omega))).trans hc

/-! ### asks -/
theorem casks_int (m : Int) : Calls Try.prog 48 #[.pointer (some ⟨cb_, 0, none⟩), .agg #[.bool false, .int .i64 m]] W fun e w' => e = .returned (.bool (asksB kn ⟨false, m⟩)) ∧ Below W.heap.size W w' := by
  have hb := below_alloc (Below.refl W.heap.size W) (.cells #[.bool false, .int .i64 m] 25)
  have HB := Lib.hid hb
  clear hb
  go_enter Try.func48, Try.ntmps48
  go_wp2_with fail
  go_quiet (fail)
  go_wp2_with fail
  go_ret
  exact ⟨ret_bool (by simp [asksB]), below_drewN HB.out _⟩
set_option maxHeartbeats 1000000 in
theorem casks_var (h : KnownIn cb_ mb nf n kn W) {m : Int} (hm : In64 m) : Calls Try.prog 48 #[.pointer (some ⟨cb_, 0, none⟩), .agg #[.bool true, .int .i64 m]] W fun e w' => e = .returned (.bool (asksB kn ⟨true, m⟩)) ∧ Below W.heap.size W w' := by
  obtain ⟨W0, hW0⟩ : ∃ W0, W.alloc (.cells #[.bool true, .int .i64 m] 25) = W0 := ⟨_, rfl⟩
  have hb0 : Below W.heap.size W W0 := by rw [← hW0]; exact (Below.refl _ _).alloc (Nat.le_refl _) _
  have c0 : W0.cell? ⟨W.heap.size, 0, none⟩ = some (.bool true) := by rw [← hW0, World.cell?_alloc_at _ _ _ _ rfl]; rfl
  have c1 : W0.cell? ⟨W.heap.size, 1, none⟩ = some (.int .i64 m) := by rw [← hW0, World.cell?_alloc_at _ _ _ _ rfl]; rfl
  have h0 := h.below hb0
  have q1 : W0.cell? ⟨cb_, 1, none⟩ = some (.map (some mb)) := by simp [World.cell?, h0.chk]
  obtain ⟨D, h1, h2⟩ := h0.map
  obtain ⟨c, -, hat, -⟩ := h1.lookup_int lawInt undMap undInt (zeroInt _) (keyOf_int_mk undInt hm)
  have hce : c = (kn.count m : Int) := by
    have := hat.symm.trans (h2 m hm)
    simpa using this
  have hl : ∀ V : World, V.heap[mb]? = W0.heap[mb]? → (Instr.lookup 69 (.map (some mb)) (.int .i64 m) false).run Try.prog V = .ok (.int .i64 (kn.count m : Int)) V := fun V hV => by
    have h1V : V.ownsMap Try.prog 3 (plainElem Try.prog 3) mb n D := by
      obtain ⟨es, clock, e1, e2⟩ := h1
      exact ⟨es, clock, hV.trans e1, e2⟩
    obtain ⟨c', hrun, hat', -⟩ := h1V.lookup_int lawInt undMap undInt (zeroInt _) (keyOf_int_mk undInt hm)
    have : c' = c := by
      have := hat'.symm.trans hat
      simpa using this
    rw [this, hce] at hrun
    exact hrun
  have hl0 := hl W0 rfl
  have hln := fun k => hl (W0.drewN k) rfl
  have hld := hl W0.drew rfl
  have HB := Lib.hid hb0
  clear h h0 h1 h2 hat hce hb0 hl
  go_enter Try.func48, Try.ntmps48
  go_wp2_with fail
  go_quiet (fail)
  go_wp2_with fail
  go_ret
  exact ⟨ret_bool (by simp [asksB, List.count_pos_iff]), below_drewN HB.out _⟩
theorem casks_any (h : KnownIn cb_ mb nf n kn W) (a : Atm) (hm : In64 a.n) : Calls Try.prog 48 #[.pointer (some ⟨cb_, 0, none⟩), .agg #[.bool a.v, .int .i64 a.n]] W fun e w' => e = .returned (.bool (asksB kn a)) ∧ Below W.heap.size W w' := by
  obtain ⟨v, m⟩ := a
  cases v
  · exact casks_int m
  · exact casks_var h hm
end
end Go.Proofs.Ytnobggabjpcbfaa

/-
  clos: know, forget, what is asked in a body.
-/
set_option linter.unusedVariables false
set_option linter.unusedSimpArgs false
namespace Go.Proofs.Ytnobggabjpcbfaa
open Go.RowKit Go.Maps

section
variable {cb_ mb nf n : Nat} {kn : List Int} {W V : World}
theorem isKey_int (v : Int) : WideAt.IsKeyLit (.int .i64 v) := by
  simp [WideAt.IsKeyLit]
theorem lit_inj {a b : Int} (h : (DataW.lit (.int .i64 a) : DataW Unit) = .lit (.int .i64 b)) : a = b := by
  injection h with h
  injection h
theorem count_cons_ (v x : Int) (l : List Int) : (x :: l).count v = l.count v + (if x = v then 1 else 0) := by
  rw [List.count_cons]
  by_cases h : x = v <;> simp [h]
set_option maxRecDepth 100000 in
set_option maxHeartbeats 2000000 in
theorem know_any (h : KnownIn cb_ mb nf n kn W) {A : Option Addr} {c : Nat} {l : List Int} (hl : IntsIn W.heap.size W A l) (hlc : l.length ≤ c) (h64 : ∀ x ∈ l, In64 x) (hn : n + l.length ≤ 1000000000000) (hkn : kn.length + l.length ≤ 1000000000000) (hA : ∀ a, A = some a → a.block ≠ mb) :
    Calls Try.prog 31 #[.pointer (some ⟨cb_, 0, none⟩), .slice A l.length c] W fun e w' => e = .returned (.tuple #[]) ∧ KnownIn cb_ mb nf (n + l.length) (l ++ kn) w' ∧ Turned mb W w' := by
  have HL := Lib.hid (fun (j : Nat) (hj : j < l.length) (V : World) (hV : Turned mb W V) => (show ∃ b o, A = some ⟨b, o, none⟩ ∧ V.cell? ⟨b, o + j, none⟩ = some (.int .i64 (nth l j)) from by
    obtain ⟨b, o, h1, h2, h3⟩ := hl.at_ (by omega)
    exact ⟨b, o, h1, hV.cell (hA _ h1) (h3 j hj)⟩))
  have H64 := Lib.hid h64
  have hl8 := hl.1
  have hst : KnownIn cb_ mb nf (n + 0) ((l.take 0).reverse ++ kn) W := h
  have HST := Lib.hid hst
  clear hl h64 h hA hst
  obtain ⟨M, hM⟩ : ∃ M, l.length = M := ⟨_, rfl⟩
  have HM := Lib.hid hM
  rw [hM] at hlc hn hkn HL hl8 ⊢
  clear hM
  go_enter Try.func31, Try.ntmps31
  go_wp2_with fail
  go_loopw [8] (fun iv wr => ∃ j : Nat, j ≤ M ∧ iv = .int .i64 (j : Int) ∧ Hid (KnownIn cb_ mb nf (n + j) ((l.take j).reverse ++ kn) wr) ∧ Hid (Turned mb W wr)) (fun iv _ => M + 1 - (intOf iv).toNat)
  case atStart => exact ⟨0, by omega, rfl, HST, Lib.hid (Turned.refl _ _)⟩
  case round =>
    obtain ⟨j, hj, rfl, HK, HT⟩ := hrel
    by_cases hlt : j < M
    · obtain ⟨b, o, rfl, qk⟩ := HL.out j hlt wr HT.out
      have e1 : (0 : Int) ≤ (j : Int) := by omega
      have e2 : (j : Int) < (M : Int) := by omega
      have e4 : IntKind.i64.wrap ((j : Int) + 1) = (j : Int) + 1 := by rw [IntKind.wrap_i64]; omega
      have e5 : (M : Int) ≤ (c : Int) := by omega
      have q1 : wr.cell? ⟨cb_, 1, none⟩ = some (.map (some mb)) := by simp [World.cell?, HK.out.chk]
      obtain ⟨D, hD, hat⟩ := HK.out.map
      have hx : In64 (nth l j) := H64.out _ (nth_mem l (by rw [HM.out]; exact hlt))
      have hcl : (((l.take j).reverse ++ kn).count (nth l j) : Int) ≤ 1000000000000 := by
        have h1 := List.count_le_length (a := nth l j) (l := (l.take j).reverse ++ kn)
        have h2 : ((l.take j).reverse ++ kn).length ≤ M + kn.length := by simp; omega
        omega
      have hcl0 : (0 : Int) ≤ (((l.take j).reverse ++ kn).count (nth l j) : Int) := by omega
      have hkey := keyOf_int_mk (P := Try.prog) undInt hx
      have HAT := Lib.hid hat
      have HX := Lib.hid hx
      have HSTEP := Lib.hid (show (l.take (j + 1)).reverse ++ kn = nth l j :: ((l.take j).reverse ++ kn) from by rw [take_snoc l (by rw [HM.out]; exact hlt)]; simp)
      clear hat hx
      generalize hcc : (((l.take j).reverse ++ kn).count (nth l j) : Int) = cc at *
      have HCC := Lib.hid hcc
      have e6 : IntKind.i64.wrap (cc + 1) = cc + 1 := by rw [IntKind.wrap_i64]; omega
      have hwf : (Lit.int .i64 (cc + 1)).wf = true := WalkArith.wf_i64 (by omega)
      clear hcc
      generalize hv : nth l j = v at *
      go_wp2_with (first
        | (at_lookup; refine wpList_lookup_own_int _ rfl _ _ 69 rfl 3 3 .i64 lawInt undMap undInt (zeroInt _) mb (n + j) D rfl hD _ _ rfl hkey ?_; intro c2 hat2 hwc; obtain rfl : c2 = cc := by (have h9 := lit_inj (hat2.symm.trans (HAT.out v HX.out)); have h8 := HCC.out; first | omega | (rw [if_pos rfl] at h9; omega)))
        | (at_mapUpdate; refine wpList_mapUpdate_in _ rfl _ _ _ 69 rfl 3 3 lawInt undMap _ mb (n + j) D rfl hD (by unfold maxLen; omega) _ _ _ rfl rfl hkey _ [] (plainElem_int undInt (by first | exact hwf | (rw [e6]; exact hwf))) ?_; intro w1 hown1 hturn1))
      have hg := hturn1.grown
      have HT2 := Lib.hid (show Turned mb W w1 from HT.out.trans hg)
      have HK2 := Lib.hid (show KnownIn cb_ mb nf (n + (j + 1)) ((l.take (j + 1)).reverse ++ kn) w1 from
        ⟨(hg.block cb_ HK.out.lt.1 (by have := HK.out.ne; simp; omega)).trans HK.out.chk, HK.out.ne, _, hown1, fun u hu => by
          rw [HSTEP.out, count_cons_]
          by_cases hvu : v = u
          · subst hvu
            rw [atKey_put_same hD.isMap (isKey_int v), if_pos rfl]
            have := HCC.out
            exact congrArg (fun z : Int => (DataW.lit (.int .i64 z) : DataW Unit)) (by omega)
          · rw [atKey_put_other (by simp; exact fun h => hvu h.symm), HAT.out u hu, if_neg hvu]; rfl⟩)
      clear hown1 hturn1 hg
      go_roundw
      case rel => exact ⟨j + 1, by omega, by go_num, HK2, HT2⟩
      case measure => simp [intOf]; omega
    · have e2 : ¬ (j : Int) < (M : Int) := by omega
      have hjM : j = M := by omega
      subst hjM
      have HE := Lib.hid (HK.out.count (kn' := l ++ kn) (fun v => by rw [List.take_of_length_le (by rw [HM.out]; omega)]; simp))
      go_wp2_with fail
      go_end0
      exact ⟨rfl, HE.out, HT.out⟩
set_option maxRecDepth 100000 in
set_option maxHeartbeats 2000000 in
theorem forget_any {A : Option Addr} {c : Nat} {l : List Int} (h : KnownIn cb_ mb nf n (l ++ kn) W) (hl : IntsIn W.heap.size W A l) (hlc : l.length ≤ c) (h64 : ∀ x ∈ l, In64 x) (hn : n + l.length ≤ 1000000000000) (hkn : kn.length + l.length ≤ 1000000000000) (hA : ∀ a, A = some a → a.block ≠ mb) :
    Calls Try.prog 33 #[.pointer (some ⟨cb_, 0, none⟩), .slice A l.length c] W fun e w' => e = .returned (.tuple #[]) ∧ KnownIn cb_ mb nf (n + l.length) kn w' ∧ Turned mb W w' := by
  have HL := Lib.hid (fun (j : Nat) (hj : j < l.length) (V : World) (hV : Turned mb W V) => (show ∃ b o, A = some ⟨b, o, none⟩ ∧ V.cell? ⟨b, o + j, none⟩ = some (.int .i64 (nth l j)) from by
    obtain ⟨b, o, h1, h2, h3⟩ := hl.at_ (by omega)
    exact ⟨b, o, h1, hV.cell (hA _ h1) (h3 j hj)⟩))
  have H64 := Lib.hid h64
  have hl8 := hl.1
  have hst : KnownIn cb_ mb nf (n + 0) (l.drop 0 ++ kn) W := h
  have HST := Lib.hid hst
  clear hl h64 h hA hst
  obtain ⟨M, hM⟩ : ∃ M, l.length = M := ⟨_, rfl⟩
  have HM := Lib.hid hM
  rw [hM] at hlc hn hkn HL hl8 ⊢
  clear hM
  go_enter Try.func33, Try.ntmps33
  go_wp2_with fail
  go_loopw [8] (fun iv wr => ∃ j : Nat, j ≤ M ∧ iv = .int .i64 (j : Int) ∧ Hid (KnownIn cb_ mb nf (n + j) (l.drop j ++ kn) wr) ∧ Hid (Turned mb W wr)) (fun iv _ => M + 1 - (intOf iv).toNat)
  case atStart => exact ⟨0, by omega, rfl, HST, Lib.hid (Turned.refl _ _)⟩
  case round =>
    obtain ⟨j, hj, rfl, HK, HT⟩ := hrel
    by_cases hlt : j < M
    · obtain ⟨b, o, rfl, qk⟩ := HL.out j hlt wr HT.out
      have e1 : (0 : Int) ≤ (j : Int) := by omega
      have e2 : (j : Int) < (M : Int) := by omega
      have e4 : IntKind.i64.wrap ((j : Int) + 1) = (j : Int) + 1 := by rw [IntKind.wrap_i64]; omega
      have e5 : (M : Int) ≤ (c : Int) := by omega
      have q1 : wr.cell? ⟨cb_, 1, none⟩ = some (.map (some mb)) := by simp [World.cell?, HK.out.chk]
      obtain ⟨D, hD, hat⟩ := HK.out.map
      have hx : In64 (nth l j) := H64.out _ (nth_mem l (by rw [HM.out]; exact hlt))
      have HSTEP := Lib.hid (show l.drop j ++ kn = nth l j :: (l.drop (j + 1) ++ kn) from by rw [nth_eq l (by rw [HM.out]; exact hlt), List.drop_eq_getElem_cons (by rw [HM.out]; exact hlt)]; rfl)
      have hcl : ((l.drop (j + 1) ++ kn).count (nth l j) : Int) ≤ 1000000000000 := by
        have h1 := List.count_le_length (a := nth l j) (l := l.drop (j + 1) ++ kn)
        have h2 : (l.drop (j + 1) ++ kn).length ≤ M + kn.length := by have := HM.out; simp; omega
        omega
      have hkey := keyOf_int_mk (P := Try.prog) undInt hx
      have HX := Lib.hid hx
      have HAT := Lib.hid (show ∀ u, In64 u → D.atKey (.int .i64 u) (.lit (.int .i64 0)) = .lit (.int .i64 (((l.drop (j + 1) ++ kn).count u : Int) + (if nth l j = u then 1 else 0))) from fun u hu => by
        rw [hat u hu, HSTEP.out, count_cons_]
        split <;> simp)
      clear hat hx
      obtain ⟨cc, hcc⟩ : ∃ cc : Nat, (l.drop (j + 1) ++ kn).count (nth l j) = cc := ⟨_, rfl⟩
      rw [hcc] at hcl
      have HCC := Lib.hid hcc
      have e6 : IntKind.i64.wrap ((cc : Int) + 1 - 1) = (cc : Int) := by rw [IntKind.wrap_i64]; omega
      have hwf : (Lit.int .i64 (cc : Int)).wf = true := WalkArith.wf_i64 (by omega)
      clear hcc
      generalize hv : nth l j = v at *
      have hne := Lib.hid HK.out.ne
      have hclt := Lib.hid HK.out.lt
      have hchk := Lib.hid HK.out.chk
      cases hz : ((cc : Int) == 0)
      · go_wp2_with (first
          | (at_lookup; refine wpList_lookup_own_int _ rfl _ _ 69 rfl 3 3 .i64 lawInt undMap undInt (zeroInt _) mb (n + j) D rfl hD _ _ rfl hkey ?_; intro c2 hat2 hwc; obtain rfl : c2 = (cc : Int) + 1 := by (have h9 := lit_inj (hat2.symm.trans (HAT.out v HX.out)); have h8 := HCC.out; first | omega | (rw [if_pos rfl] at h9; omega)))
          | (at_lookup; refine wpList_lookup_own_int _ rfl _ _ 69 rfl 3 3 .i64 lawInt undMap undInt (zeroInt _) mb (n + j + 1) _ rfl hown1 _ _ rfl hkey ?_; intro c3 hat3 hwc3; obtain rfl : c3 = (cc : Int) := by (rw [atKey_put_same hD.isMap (isKey_int v)] at hat3; have h9 := lit_inj hat3; omega))
          | (at_mapUpdate; refine wpList_mapUpdate_in _ rfl _ _ _ 69 rfl 3 3 lawInt undMap _ mb (n + j) D rfl hD (by unfold maxLen; omega) _ _ _ rfl rfl hkey _ [] (plainElem_int undInt (by first | exact hwf | (rw [e6]; exact hwf))) ?_; intro w1 hown1 hturn1; have p1 : w1.cell? ⟨cb_, 1, none⟩ = some (.map (some mb)) := (show Turned mb wr w1 from hturn1.grown).cell hne.out q1))
        have hg := hturn1.grown
        have HT2 := Lib.hid (show Turned mb W w1 from HT.out.trans hg)
        have HK2 := Lib.hid (show KnownIn cb_ mb nf (n + (j + 1)) (l.drop (j + 1) ++ kn) w1 from
          ⟨(hg.block cb_ hclt.out.1 (by have := hne.out; simp; omega)).trans hchk.out, hne.out, _, hown1, fun u hu => by
            by_cases hvu : v = u
            · subst hvu
              rw [atKey_put_same hD.isMap (isKey_int v), HCC.out]
            · rw [atKey_put_other (by simp; exact fun h => hvu h.symm), HAT.out u hu, if_neg hvu]; simp⟩)
        clear hown1 hturn1 hg
        go_roundw
        case rel => exact ⟨j + 1, by omega, by go_num, HK2, HT2⟩
        case measure => simp [intOf]; omega
      · go_wp2_with (first
          | (at_lookup; refine wpList_lookup_own_int _ rfl _ _ 69 rfl 3 3 .i64 lawInt undMap undInt (zeroInt _) mb (n + j) D rfl hD _ _ rfl hkey ?_; intro c2 hat2 hwc; obtain rfl : c2 = (cc : Int) + 1 := by (have h9 := lit_inj (hat2.symm.trans (HAT.out v HX.out)); have h8 := HCC.out; first | omega | (rw [if_pos rfl] at h9; omega)))
          | (at_lookup; refine wpList_lookup_own_int _ rfl _ _ 69 rfl 3 3 .i64 lawInt undMap undInt (zeroInt _) mb (n + j + 1) _ rfl hown1 _ _ rfl hkey ?_; intro c3 hat3 hwc3; obtain rfl : c3 = (cc : Int) := by (rw [atKey_put_same hD.isMap (isKey_int v)] at hat3; have h9 := lit_inj hat3; omega))
          | (at_mapUpdate; refine wpList_mapUpdate_in _ rfl _ _ _ 69 rfl 3 3 lawInt undMap _ mb (n + j) D rfl hD (by unfold maxLen; omega) _ _ _ rfl rfl hkey _ [] (plainElem_int undInt (by first | exact hwf | (rw [e6]; exact hwf))) ?_; intro w1 hown1 hturn1; have p1 : w1.cell? ⟨cb_, 1, none⟩ = some (.map (some mb)) := (show Turned mb wr w1 from hturn1.grown).cell hne.out q1)
          | (at_delete; refine wpList_delete_own _ rfl _ _ 69 3 rfl 3 lawInt undMap _ mb (n + j + 1) _ rfl hown1 _ _ rfl hkey ?_; intro w2 hown2 hturn2))
        have hg := hturn1.grown
        have hg2 := hturn2.grown
        have HT2 := Lib.hid (show Turned mb W w2 from HT.out.trans (Turned.trans hg hg2))
        have HK2 := Lib.hid (show KnownIn cb_ mb nf (n + (j + 1)) (l.drop (j + 1) ++ kn) w2 from
          ⟨((Turned.trans hg hg2).block cb_ hclt.out.1 (by have := hne.out; simp; omega)).trans hchk.out, hne.out, _, hown2, fun u hu => by
            by_cases hvu : v = u
            · subst hvu
              rw [atKey_del_same, HCC.out]
              simp at hz
              simp [hz]
            · rw [atKey_del_other (by simp; exact fun h => hvu h.symm), atKey_put_other (by simp; exact fun h => hvu h.symm), HAT.out u hu, if_neg hvu]; simp⟩)
        clear hown1 hturn1 hg hown2 hturn2 hg2
        go_roundw
        case rel => exact ⟨j + 1, by omega, by go_num, HK2, HT2⟩
        case measure => simp [intOf]; omega
    · have e2 : ¬ (j : Int) < (M : Int) := by omega
      have hjM : j = M := by omega
      subst hjM
      have HE := Lib.hid (HK.out.count (kn' := kn) (fun v => by rw [List.drop_of_length_le (by rw [HM.out]; omega)]; simp))
      go_wp2_with fail
      go_end0
      exact ⟨rfl, HE.out, HT.out⟩
end
end Go.Proofs.Ytnobggabjpcbfaa

/-
  clos: what a body asks for; sizes of bodies.
-/
set_option linter.unusedVariables false
set_option linter.unusedSimpArgs false
namespace Go.Proofs.Ytnobggabjpcbfaa
open Go.RowKit Go.Maps

mutual
/-- binds and keys in all blocks -/
def szA : Anf → Nat
  | .ret _ => 0
  | .bind _ _ _ _ ks bl r => 1 + ks.length + szL bl + szA r
def szL : List Anf → Nat
  | [] => 0
  | c :: cs => szA c + szL cs
end
mutual
/-- atoms' numbers are 64 bits wide -/
def rngA : Anf → Prop
  | .ret a => In64 a.n
  | .bind _ _ _ ats _ bl r => (∀ a ∈ ats, In64 a.n) ∧ rngL bl ∧ rngA r
def rngL : List Anf → Prop
  | [] => True
  | c :: cs => rngA c ∧ rngL cs
end
theorem rngL_at : ∀ {bl : List Anf}, rngL bl → ∀ c ∈ bl, rngA c
  | c :: cs, h, d, hd => by
    unfold rngL at h
    rcases List.mem_cons.1 hd with rfl | hd
    · exact h.1
    · exact rngL_at h.2 d hd
theorem rngA_tail : ∀ {t : Anf}, rngA t → ∀ j, rngA (t.tail j)
  | t, h, 0 => by rw [Anf.tail_zero]; exact h
  | .ret a, h, j + 1 => h
  | .bind _ _ _ _ _ _ r, h, j + 1 => by
    unfold rngA at h
    exact rngA_tail h.2.2 j
theorem rngA_last : ∀ {t : Anf}, rngA t → In64 t.last.n
  | .ret a, h => h
  | .bind _ _ _ _ _ _ r, h => by
    unfold rngA at h
    exact rngA_last (t := r) h.2.2
theorem szL_at : ∀ {bl : List Anf}, ∀ c ∈ bl, szA c ≤ szL bl
  | c :: cs, d, hd => by
    unfold szL
    rcases List.mem_cons.1 hd with rfl | hd
    · omega
    · have := szL_at d hd; omega
theorem szL_drop : ∀ {bl : List Anf} {q : Nat} (hq : q < bl.length), szL (bl.drop q) = szA bl[q] + szL (bl.drop (q + 1))
  | c :: cs, 0, _ => by simp [szL]
  | c :: cs, q + 1, hq => by
    have := szL_drop (bl := cs) (q := q) (by simpa using hq)
    simpa using this
theorem blocksE_drop {nf : Nat} {kn : List Int} : ∀ {bl : List Anf} {q : Nat} (hq : q < bl.length), blocksE nf kn (bl.drop q) = if bodyE nf kn bl[q] ≠ 0 then bodyE nf kn bl[q] else blocksE nf kn (bl.drop (q + 1))
  | c :: cs, 0, _ => by simp [blocksE]
  | c :: cs, q + 1, hq => by
    have := blocksE_drop (nf := nf) (kn := kn) (bl := cs) (q := q) (by simpa using hq)
    simpa using this
theorem in64_var {n : Int} (h : varB n = true) : In64 n := by
  have := inB_iff.1 h
  exact in64_small (by omega) (by omega)
section
variable {cb_ mb nf n vb : Nat} {kn : List Int} {W V : World}
theorem body1_any (h : KnownIn cb_ mb nf n kn W) (hv : W.cell? ⟨vb, 0, none⟩ = some (.pointer (some ⟨cb_, 0, none⟩))) (a : Atm) (ha : In64 a.n) :
    Calls Try.prog 47 #[.agg #[.bool a.v, .int .i64 a.n], .pointer (some ⟨vb, 0, none⟩)] W fun e w' => e = .returned (.bool (!asksB kn a)) ∧ Below W.heap.size W w' := by
  obtain ⟨W0, hW0⟩ : ∃ W0, W.alloc (.cells #[.bool a.v, .int .i64 a.n] 25) = W0 := ⟨_, rfl⟩
  have hb0 : Below W.heap.size W W0 := by rw [← hW0]; exact (Below.refl _ _).alloc (Nat.le_refl _) _
  have c0 : W0.cell? ⟨W.heap.size, 0, none⟩ = some (.bool a.v) := by rw [← hW0, World.cell?_alloc_at _ _ _ _ rfl]; rfl
  have c1 : W0.cell? ⟨W.heap.size, 1, none⟩ = some (.int .i64 a.n) := by rw [← hW0, World.cell?_alloc_at _ _ _ _ rfl]; rfl
  have q1 := cell_behind hb0 hv
  have HC := Lib.hid (casks_any (h.below hb0) a ha)
  have HB := Lib.hid hb0
  clear h hb0 hv
  generalize a.v = av at *
  generalize a.n = an at *
  go_enter Try.func47, Try.ntmps47
  go_wp2_with fail
  refine HC.out.mono ?_
  rintro en w' ⟨rfl, hb⟩
  go_wp2_with fail
  go_ret
  exact ⟨rfl, HB.out.trans (hb.mono HB.out.size)⟩
theorem asked_any (h : KnownIn cb_ mb nf n kn W) (hv : W.cell? ⟨vb, 0, none⟩ = some (.pointer (some ⟨cb_, 0, none⟩))) {ats : List Atm} {Aa : Option Addr} {ca : Nat} (ha : AtomsIn W.heap.size W Aa ats) (hac : ats.length ≤ ca) (hr : ∀ a ∈ ats, In64 a.n) :
    Calls Try.prog 46 #[.slice Aa ats.length ca, .func (.func 47) #[] #[.pointer (some ⟨vb, 0, none⟩)]] W fun e w' => e = .returned (.bool (!ats.all (asksB kn))) ∧ Below W.heap.size W w' :=
  (contains_ask ha hac (fun a => !asksB kn a) (fun a hm V hV => body1_any (h.below hV) (cell_behind hV hv) a (hr a hm))).mono fun e w' h => ⟨h.1.trans (ret_bool (by rw [Bool.eq_iff_iff]; simp)), h.2⟩
end
end Go.Proofs.Ytnobggabjpcbfaa

/-
  The flat evaluator: how the run's state is turned: a cell more, a cell set, an int printed, an int read, a closure made.
-/
set_option linter.unusedVariables false
set_option linter.unusedSimpArgs false
namespace Go.Proofs.Ytnobggabjpcbfaa
open Go.RowKit

section
variable {rb B : Nat} {p : FlatP} {inp : List Int} {fuel : Nat} {s : FSt} {m m' : Mem} {W W' : World}
theorem heap_set_self {b : Nat} {cs : Array Value} {T : TypeId} {fr : Nat × Nat} (h : W.heap[b]? = some (.cells cs T fr)) (o : Nat) (v : Value) : (W.setCell ⟨b, o, none⟩ v).heap[b]? = some (.cells (cs.setIfInBounds o v) T fr) := by
  simp [World.setCell, Array.getElem?_modify, h]
theorem heap_set_ne {b k : Nat} (h : k ≠ b) (o : Nat) (v : Value) : (W.setCell ⟨b, o, none⟩ v).heap[k]? = W.heap[k]? := Below.heap_setCell W _ _ k h

/-- a cell more -/
theorem Good.addCell (hg : Good rb B p inp fuel s m W) {a : PV} {ga : Value} (ha : RepV rb m W a ga) :
    Good rb B p inp fuel { s with cells := s.cells ++ [a] } { m with ca := m.ca ++ [W.heap.size] } (W.alloc (.cells #[ga] 118)) ∧ Evo rb m { m with ca := m.ca ++ [W.heap.size] } W (W.alloc (.cells #[ga] 118)) ∧
      RepV rb { m with ca := m.ca ++ [W.heap.size] } (W.alloc (.cells #[ga] 118)) (.ref s.cells.length) (.iface 117 (.pointer (some ⟨W.heap.size, 0, none⟩))) := by
  have hk : Evo rb m { m with ca := m.ca ++ [W.heap.size] } W (W.alloc (.cells #[ga] 118)) :=
    (Evo.alloc rb m W _).more (List.prefix_refl _) (List.prefix_append _ _) (fun k h => by
      rcases h with rfl | h | h
      · exact .inl (.inl rfl)
      · exact .inl (.inr (.inl h))
      · rcases List.mem_append.1 h with h | h
        · exact .inl (.inr (.inr h))
        · simp at h; exact .inr (by omega))
  have hgb := hg.below ((Below.refl W.heap.size W).alloc (Nat.le_refl _) (.cells #[ga] 118))
  have hrbl := hg.mutLt (k := rb) (.inl rfl)
  refine ⟨⟨hgb.Bs, hg.rbB, hg.left, hg.fuelB, hg.bnd, hgb.run, hgb.out, hg.falen, hg.fnsEvo hk, ?_, ?_, ?_, ?_, hg.rbo, ?_, ?_⟩, hk, .ref ?_⟩
  · simp [hg.calen]
  · intro i hi
    by_cases h : i < s.cells.length
    · obtain ⟨b, gv, h1, h2, h3⟩ := hg.cells i h
      refine ⟨b, gv, prefix_get hk.ca h1, ?_, ?_⟩
      · exact (((Below.refl W.heap.size W).alloc (Nat.le_refl _) (.cells #[ga] 118)).block b (Array.getElem?_eq_some_iff.1 h2).1).trans h2
      · simpa [List.getElem_append_left h] using h3.evo hk
    · have : i = s.cells.length := by simp at hi; omega
      subst this
      refine ⟨W.heap.size, ga, ?_, World.alloc_heap_new W _, ?_⟩
      · show (m.ca ++ [W.heap.size])[s.cells.length]? = _
        rw [← hg.calen, List.getElem?_append_right (Nat.le_refl _)]; simp
      · simpa using ha.evo hk
  · show (m.ca ++ [W.heap.size]).Nodup
    rw [List.nodup_append]
    exact ⟨hg.nodup, by simp, fun x hx y hy => by have := hg.mutLt (k := x) (.inr (.inr hx)); simp at hy; omega⟩
  · intro h
    rcases List.mem_append.1 h with h | h
    · exact hg.rbca h
    · simp at h; omega
  · intro b h
    rcases List.mem_append.1 h with h | h
    · exact hg.oca b h
    · simp at h; subst h
      intro ho
      exact absurd (hg.out.lt _ ho).2 (Nat.lt_irrefl _)
  · intro b h
    rcases List.mem_append.1 h with h | h
    · exact hg.caB b h
    · simp at h; subst h; exact hg.Bs
  · show (m.ca ++ [W.heap.size])[s.cells.length]? = _
    rw [← hg.calen, List.getElem?_append_right (Nat.le_refl _)]; simp

/-- a cell is set -/
theorem Good.setRef (hg : Good rb B p inp fuel s m W) {i b : Nat} (hb : m.ca[i]? = some b) {a : PV} {ga : Value} (ha : RepV rb m W a ga) :
    Good rb B p inp fuel { s with cells := s.cells.set i a } m (W.setCell ⟨b, 0, none⟩ ga) ∧ Evo rb m m W (W.setCell ⟨b, 0, none⟩ ga) := by
  have hbm : b ∈ m.ca := List.mem_of_getElem? hb
  have hk : Evo rb m m W (W.setCell ⟨b, 0, none⟩ ga) := Evo.setCell W 0 ga (.inr (.inr hbm))
  have hst := hg.stay hk
  have hne : ∀ k, k ≠ b → (W.setCell ⟨b, 0, none⟩ ga).heap[k]? = W.heap[k]? := fun k h => Below.heap_setCell W _ _ k h
  obtain ⟨f0, f1, f2, f3, Ai, ci, hr, hfl, hi, hci⟩ := hg.run
  refine ⟨⟨by simpa [World.setCell] using hg.Bs, hg.rbB, hg.left, hg.fuelB, hg.bnd, ⟨f0, f1, f2, f3, Ai, ci, (hne rb (fun e => hg.rbca (e ▸ hbm))).trans hr, hfl.kept hst, hi.below hst, hci⟩, ?_, hg.falen, hg.fnsEvo hk, by simp [hg.calen], ?_, hg.nodup, hg.rbca, hg.rbo, hg.oca, hg.caB⟩, hk⟩
  · refine hg.out.kept (row := some b) ⟨rfl, rfl, rfl, by simp [World.setCell], fun i hi h => hne i (fun e => h (by rw [e]))⟩ ?_
    exact .inr (hg.oca b hbm)
  · intro j hj
    have hj' : j < s.cells.length := by simpa using hj
    obtain ⟨b', gv, h1, h2, h3⟩ := hg.cells j hj'
    by_cases hji : j = i
    · subst hji
      rw [hb] at h1; cases h1
      refine ⟨b, ga, hb, ?_, by simpa using ha.evo hk⟩
      exact heap_set_self h2 0 ga
    · refine ⟨b', gv, h1, (hne b' ?_).trans h2, ?_⟩
      · rintro rfl
        have hjl : j < m.ca.length := (List.getElem?_eq_some_iff.1 h1).1
        have hil : i < m.ca.length := (List.getElem?_eq_some_iff.1 hb).1
        have hp := List.pairwise_iff_getElem.1 hg.nodup
        rw [List.getElem?_eq_getElem hjl] at h1
        rw [List.getElem?_eq_getElem hil] at hb
        simp only [Option.some.injEq] at h1 hb
        rcases Nat.lt_or_gt_of_ne hji with h | h
        · exact hp j i hjl hil h (h1.trans hb.symm)
        · exact hp i j hil hjl h (hb.trans h1.symm)
      · have : (s.cells.set i a)[j] = s.cells[j] := by simp [List.getElem_set, Ne.symm hji]
        simpa [this] using h3.evo hk

theorem Good.neRb (hg : Good rb B p inp fuel s m W) {b : Nat} (hb : b ∈ m.ca) : b ≠ rb := fun e => hg.rbca (e ▸ hb)
/-- the run's own record is turned, functions and cells are as they were -/
theorem Good.turn {s' : FSt} (hg : Good rb B p inp fuel s m W) (hk : Evo rb m m' W W') (hmade : s'.made = s.made) (hcells : s'.cells = s.cells) (hfa : m'.fa = m.fa) (hca : m'.ca = m.ca) (hcb : ∀ b ∈ m.ca, W'.heap[b]? = W.heap[b]?)
    (hleft : s'.left ≤ fuel) (hbnd : s'.out.length + s'.left ≤ fuel)
    (hrun : ∃ f0 f1 f2 f3 Ai ci, W'.heap[rb]? = some (.cells #[f0, f1, f2, f3, .slice Ai (inp.drop s'.asked).length ci, .int .i64 fuel, .int .i64 0, .int .i64 0, m'.vo, .int .i64 ((fuel : Int) - s'.left)] 62 (0, 0)) ∧ FlatIn B W' p #[f0, f1, f2, f3] ∧ IntsIn B W' Ai (inp.drop s'.asked) ∧ (inp.drop s'.asked).length ≤ ci)
    (hout : W'.ownsRow B 3 1 m'.vo s'.out.length (s'.out.map (Value.int .i64))) (hrbo : m'.vo.ownBlock ≠ some rb) (hoca : ∀ b ∈ m.ca, m'.vo.ownBlock ≠ some b) : Good rb B p inp fuel s' m' W' := by
  refine ⟨Nat.le_trans hg.Bs hk.size, hg.rbB, hleft, hg.fuelB, hbnd, hrun, hout, by rw [hfa, hmade]; exact hg.falen, ?_, by rw [hca, hcells]; exact hg.calen, ?_, by rw [hca]; exact hg.nodup, by rw [hca]; exact hg.rbca, hrbo, by rw [hca]; exact hoca, by rw [hca]; exact hg.caB⟩
  · rw [hmade]; exact hg.fnsEvo hk
  · rw [hcells]
    intro i hi
    obtain ⟨b, gv, h1, h2, h3⟩ := hg.cells i hi
    exact ⟨b, gv, prefix_get hk.ca h1, (hcb b (List.mem_of_getElem? h1)).trans h2, h3.evo hk⟩

/-- a step is taken -/
theorem Good.step (hg : Good rb B p inp fuel s m W) (hl : 0 < s.left) : Good rb B p inp fuel { s with left := s.left - 1 } m (W.setCell ⟨rb, 9, none⟩ (.int .i64 ((fuel : Int) - s.left + 1))) ∧ Evo rb m m W (W.setCell ⟨rb, 9, none⟩ (.int .i64 ((fuel : Int) - s.left + 1))) := by
  have hk : Evo rb m m W (W.setCell ⟨rb, 9, none⟩ (.int .i64 ((fuel : Int) - s.left + 1))) := Evo.setCell W 9 _ (.inl rfl)
  obtain ⟨f0, f1, f2, f3, Ai, ci, hr, hfl, hi, hci⟩ := hg.run
  refine ⟨hg.turn hk rfl rfl rfl rfl (fun b hb => heap_set_ne (hg.neRb hb) _ _) (by have := hg.left; show s.left - 1 ≤ fuel; omega) (by have := hg.bnd; show s.out.length + (s.left - 1) ≤ fuel; omega) ⟨f0, f1, f2, f3, Ai, ci, ?_, hfl.kept (hg.stay hk), hi.below (hg.stay hk), hci⟩ ?_ hg.rbo hg.oca, hk⟩
  · rw [heap_set_self hr]
    have : ((s.left - 1 : Nat) : Int) = s.left - 1 := by omega
    simp [this]
    omega
  · exact hg.out.kept (row := some rb) ⟨rfl, rfl, rfl, by simp [World.setCell], fun i hi h => heap_set_ne (fun e => h (by rw [e])) _ _⟩ (.inr hg.rbo)

/-- an int is read -/
theorem Good.read (hg : Good rb B p inp fuel s m W) {Ai : Option Addr} {ci : Nat} (hi : IntsIn B W Ai (inp.drop (s.asked + 1))) (hci : (inp.drop (s.asked + 1)).length ≤ ci) :
    Good rb B p inp fuel { s with asked := s.asked + 1 } m (W.setCell ⟨rb, 4, none⟩ (.slice Ai (inp.drop (s.asked + 1)).length ci)) ∧ Evo rb m m W (W.setCell ⟨rb, 4, none⟩ (.slice Ai (inp.drop (s.asked + 1)).length ci)) := by
  have hk : Evo rb m m W (W.setCell ⟨rb, 4, none⟩ (.slice Ai (inp.drop (s.asked + 1)).length ci)) := Evo.setCell W 4 _ (.inl rfl)
  obtain ⟨f0, f1, f2, f3, Ai', ci', hr, hfl, hi', hci'⟩ := hg.run
  refine ⟨hg.turn hk rfl rfl rfl rfl (fun b hb => heap_set_ne (hg.neRb hb) _ _) hg.left hg.bnd ⟨f0, f1, f2, f3, Ai, ci, ?_, hfl.kept (hg.stay hk), hi.below (hg.stay hk), hci⟩ ?_ hg.rbo hg.oca, hk⟩
  · rw [heap_set_self hr]
    simp
  · exact hg.out.kept (row := some rb) ⟨rfl, rfl, rfl, by simp [World.setCell], fun i hi h => heap_set_ne (fun e => h (by rw [e])) _ _⟩ (.inr hg.rbo)

/-- more was asked for than there is: nothing turns -/
theorem Good.past (hg : Good rb B p inp fuel s m W) (hp : inp.length ≤ s.asked) : Good rb B p inp fuel { s with asked := s.asked + 1 } m W := by
  obtain ⟨f0, f1, f2, f3, Ai, ci, hr, hfl, hi, hci⟩ := hg.run
  have h1 : inp.drop s.asked = [] := List.drop_eq_nil_iff.2 hp
  have h2 : inp.drop (s.asked + 1) = [] := List.drop_eq_nil_iff.2 (by omega)
  refine hg.turn (Evo.refl _ _ _) rfl rfl rfl rfl (fun _ _ => rfl) hg.left hg.bnd ⟨f0, f1, f2, f3, Ai, ci, ?_, hfl, ?_, ?_⟩ hg.out hg.rbo hg.oca
  · rw [hr, h1, h2]
  · rw [h2, ← h1]; exact hi
  · rw [h2]; simp

/-- an int is printed -/
theorem Good.print (hg : Good rb B p inp fuel s m W) (hs : s.out.length + s.left < fuel) {W2 w1 : World} (hb2 : Below W.heap.size W W2) {n : Int} {v' : Value} (h1 : w1.ownsRow B 3 1 v' (s.out.length + 1) (s.out.map (Value.int .i64) ++ [.int .i64 n]))
    (h2 : W2.grownBy w1 m.vo.ownBlock) (hat : v'.ownBlock = m.vo.ownBlock ∨ v'.ownBlock = some W2.heap.size) :
    Good rb B p inp fuel { s with out := s.out ++ [n] } { m with vo := v' } (w1.setCell ⟨rb, 8, none⟩ v') ∧ Evo rb m { m with vo := v' } W (w1.setCell ⟨rb, 8, none⟩ v') := by
  have hsz := hb2.size
  have hrbl := hg.mutLt (k := rb) (.inl rfl)
  have hk : Evo rb m { m with vo := v' } W (w1.setCell ⟨rb, 8, none⟩ v') := by
    refine ⟨h2.os.trans hb2.os, h2.tape.trans hb2.tape, h2.output.trans hb2.output, ?_, ?_, ?_, List.prefix_refl _, List.prefix_refl _⟩
    · have := h2.size; simp [World.setCell]; omega
    · intro k hk hm
      rw [heap_set_ne (fun e => hm (.inl e))]
      exact (h2.block k (by omega) (fun e => hm (.inr (.inl e.symm)))).trans (hb2.block k hk)
    · intro k hk
      rcases hk with rfl | hk | hk
      · exact .inl (.inl rfl)
      · rcases hat with h | h
        · exact .inl (.inr (.inl (h ▸ hk)))
        · have := h.symm.trans hk; simp at this; exact .inr (by omega)
      · exact .inl (.inr (.inr hk))
  have hrb' : v'.ownBlock ≠ some rb := by
    rcases hat with h | h
    · rw [h]; exact hg.rbo
    · rw [h]; simp; omega
  obtain ⟨f0, f1, f2, f3, Ai, ci, hr, hfl, hi, hci⟩ := hg.run
  refine ⟨hg.turn hk rfl rfl rfl rfl ?_ hg.left ?_ ⟨f0, f1, f2, f3, Ai, ci, ?_, hfl.kept (hg.stay hk), hi.below (hg.stay hk), hci⟩ ?_ hrb' ?_, hk⟩
  · intro b hb
    have hbl := hg.mutLt (k := b) (.inr (.inr hb))
    rw [heap_set_ne (hg.neRb hb)]
    exact (h2.block b (by omega) (fun e => hg.oca b hb e.symm)).trans (hb2.block b hbl)
  · show (s.out ++ [n]).length + s.left ≤ fuel
    simp; omega
  · have : w1.heap[rb]? = _ := (h2.block rb (by omega) (fun e => hg.rbo e.symm)).trans ((hb2.block rb hrbl).trans hr)
    rw [heap_set_self this]
    simp
  · have := h1.kept (w' := w1.setCell ⟨rb, 8, none⟩ v') (row := some rb) ⟨rfl, rfl, rfl, by simp [World.setCell], fun i hi h => heap_set_ne (fun e => h (by rw [e])) _ _⟩ (.inr hrb')
    simpa using this
  · intro b hb
    have hbl := hg.mutLt (k := b) (.inr (.inr hb))
    rcases hat with h | h
    · rw [h]; exact hg.oca b hb
    · rw [h]; simp; omega
/-- a closure more -/
theorem Good.addClosure (hg : Good rb B p inp fuel s m W) {f : Int} (hf0 : 0 ≤ f) (hf1 : f < p.funs.length) {l : List PV} {A : Option Addr} {cap : Nat} (hc : l.length ≤ cap) (h255 : l.length ≤ 255) (hr : RowV rb m W l A) :
    Good rb B p inp fuel { s with made := s.made ++ [(f, l)] } { m with fa := m.fa ++ [W.heap.size] } (W.alloc (.cells #[.int .i64 f, .slice A l.length cap] 111)) ∧ Evo rb m { m with fa := m.fa ++ [W.heap.size] } W (W.alloc (.cells #[.int .i64 f, .slice A l.length cap] 111)) ∧
      RepV rb { m with fa := m.fa ++ [W.heap.size] } (W.alloc (.cells #[.int .i64 f, .slice A l.length cap] 111)) (.fn s.made.length) (.iface 109 (.pointer (some ⟨W.heap.size, 0, none⟩))) := by
  have hk : Evo rb m { m with fa := m.fa ++ [W.heap.size] } W (W.alloc (.cells #[.int .i64 f, .slice A l.length cap] 111)) :=
    (Evo.alloc rb m W _).more (List.prefix_append _ _) (List.prefix_refl _) (fun k h => .inl h)
  have hgb := hg.below ((Below.refl W.heap.size W).alloc (Nat.le_refl _) (.cells #[.int .i64 f, .slice A l.length cap] 111))
  have hat : (m.fa ++ [W.heap.size])[s.made.length]? = some W.heap.size := by rw [← hg.falen, List.getElem?_append_right (Nat.le_refl _)]; simp
  refine ⟨⟨hgb.Bs, hg.rbB, hg.left, hg.fuelB, hg.bnd, hgb.run, hgb.out, by simp [hg.falen], ?_, hg.calen, ?_, hg.nodup, hg.rbca, hg.rbo, hg.oca, hg.caB⟩, hk, .fn hat⟩
  · intro i hi
    by_cases h : i < s.made.length
    · simp only [List.getElem_append_left h]
      exact hg.fnsEvo hk i h
    · have : i = s.made.length := by simp at hi; omega
      subst this
      have hget : (s.made ++ [(f, l)])[s.made.length]'(by simp) = (f, l) := by simp
      simp only [hget]
      exact ⟨W.heap.size, A, cap, hat, ⟨World.alloc_heap_new W _, fun hm => by have := hg.mutLt (k := W.heap.size) hm; omega⟩, hc, h255, hr.evo hk, hf0, hf1⟩
  · intro i hi
    obtain ⟨b, gv, h1, h2, h3⟩ := hg.cells i hi
    exact ⟨b, gv, h1, (((Below.refl W.heap.size W).alloc (Nat.le_refl _) (.cells #[.int .i64 f, .slice A l.length cap] 111)).block b (Array.getElem?_eq_some_iff.1 h2).1).trans h2, h3.evo hk⟩
end

section
variable {P : Program} (w : World)
theorem wp_append_at {o : Oper} {a : Act} {K : Act → World → Prop} {Q : Exit → Act → World → Prop} (s x : Operand) (t : TypeId)
    (ho : o.op = .call { callee := .builtin .append, args := #[s, x], argTypes := #[t, t] })
    (base : Nat) (e : TypeId) (i : TypeInfo) (z : Value) (size bytes : Nat) (ht : P.underlying t = some (.slice e)) (hi : P.info? e = some i) (hz : i.zero = some z)
    (hsize : i.size = size) (hby : i.bytes = bytes) (hzs : z.cells.size = size) (hsz : 0 < size)
    (v : Value) (n : Nat) (xs : List Value) (hs : a.eval s = v) (hown : w.ownsRow base e size v n xs)
    (ad : Addr) (m c : Nat) (news : List Value) (hx : a.eval x = .slice (some ad) m c) (hl : news.length = m * size) (hnews : ∀ j u, news[j]? = some u → w.cell? (ad.add j) = some u) (h1 : ∀ u ∈ news, u.oneCell' = true)
    (h63 : n + m ≤ maxLen) (hbytes : (n + m) * bytes ≤ 140737488355328) (hbase : base ≤ w.heap.size)
    (h : ∀ v' w', w'.ownsRow base e size v' (n + m) (xs ++ news) → w.grownBy w' v.ownBlock → (v'.ownBlock = v.ownBlock ∨ v'.ownBlock = some w.heap.size) → K (a.put o.dst v') w') : o.wp P a w K Q := by
  obtain ⟨v', w', hr, h2, h3, _, h4⟩ := run_append_own_at (P := P) w base t o.type e i z size bytes ht hi hz hsize hby hzs hsz v n xs hown ad m c news hl hnews h1 h63 hbytes hbase
  unfold Oper.wp execOp
  simp only [ho, resolve, invoke, builtin, Sem.run_bind, Sem.run_pure, Result.andThen_ok, List.map_toArray, List.map_cons, List.map_nil, hs, hx, hr]
  exact h v' w' h2 h3 h4
end
end Go.Proofs.Ytnobggabjpcbfaa

/-
  The flat evaluator: how an evaluation ends; a step; a call.
-/
set_option linter.unusedVariables false
set_option linter.unusedSimpArgs false
namespace Go.Proofs.Ytnobggabjpcbfaa
open Go.RowKit

/-- what is thrown: what was recovered and thrown again lies behind it -/
def Thrown (T : TypeId) (x : Value) (ch : List PanicEntry) : Prop := ∃ older : List PanicEntry, ch = { v := .iface T x, recovered := false } :: older ∧ ∀ p ∈ older, p.goexit = false
theorem thrown_one (T : TypeId) (x : Value) : Thrown T x [{ v := .iface T x, recovered := false }] := ⟨[], rfl, by simp⟩

/-- how an evaluation ends in memory -/
inductive EvPost (rb B : Nat) (p : FlatP) (inp : List Int) (fuel : Nat) (m : Mem) (W : World) : FOut → Ending → World → Prop
  | val {v : PV} {s : FSt} {m' : Mem} {W' : World} {g : Value} (hk : Evo rb m m' W W') (hg : Good rb B p inp fuel s m' W') (hv : RepV rb m' W' v g) : EvPost rb B p inp fuel m W (.val v, s) (.returned g) W'
  | raised {v : PV} {s : FSt} {m' : Mem} {W' : World} {g : Value} {ch : List PanicEntry} (hk : Evo rb m m' W W') (hg : Good rb B p inp fuel s m' W') (hv : RepV rb m' W' v g) (hkey : ∃ k, keyOf v = some k) (hth : Thrown 80 (.agg #[g]) ch) : EvPost rb B p inp fuel m W (.raised v, s) (.panicked ch) W'
  | stuck {s : FSt} {m' : Mem} {W' : World} {ch : List PanicEntry} (hk : Evo rb m m' W W') (hg : Good rb B p inp fuel s m' W') (hth : Thrown 76 (.agg #[.int .i64 4]) ch) : EvPost rb B p inp fuel m W (.stuck, s) (.panicked ch) W'
  | cut {s : FSt} {m' : Mem} {W' : World} {ch : List PanicEntry} (hk : Evo rb m m' W W') (hg : Good rb B p inp fuel s m' W') (hth : Thrown 76 (.agg #[.int .i64 3]) ch) : EvPost rb B p inp fuel m W (.cut, s) (.panicked ch) W'
theorem EvPost.from_ {rb B : Nat} {p : FlatP} {inp : List Int} {fuel : Nat} {m m' : Mem} {W W' : World} (hk : Evo rb m m' W W') {o : FOut} {e : Ending} {V : World} (h : EvPost rb B p inp fuel m' W' o e V) : EvPost rb B p inp fuel m W o e V := by
  cases h with
  | val h1 h2 h3 => exact .val (hk.trans h1) h2 h3
  | raised h1 h2 h3 h4 h5 => exact .raised (hk.trans h1) h2 h3 h4 h5
  | stuck h1 h2 h3 => exact .stuck (hk.trans h1) h2 h3
  | cut h1 h2 h3 => exact .cut (hk.trans h1) h2 h3

theorem EvPost.ends {rb B : Nat} {p : FlatP} {inp : List Int} {fuel : Nat} {m : Mem} {W : World} {o : FOut} {e : Ending} {V : World} (h : EvPost rb B p inp fuel m W o e V) :
    (∃ g, e = .returned g ∧ EvPost rb B p inp fuel m W o (.returned g) V) ∨ (∃ ch, e = .panicked ch ∧ EvPost rb B p inp fuel m W o (.panicked ch) V) := by
  cases h with
  | val h1 h2 h3 => exact .inl ⟨_, rfl, .val h1 h2 h3⟩
  | raised h1 h2 h3 h4 h5 => exact .inr ⟨_, rfl, .raised h1 h2 h3 h4 h5⟩
  | stuck h1 h2 h3 => exact .inr ⟨_, rfl, .stuck h1 h2 h3⟩
  | cut h1 h2 h3 => exact .inr ⟨_, rfl, .cut h1 h2 h3⟩

theorem EvPost.evo {rb B : Nat} {p : FlatP} {inp : List Int} {fuel : Nat} {m : Mem} {W : World} {o : FOut} {e : Ending} {V : World} (h : EvPost rb B p inp fuel m W o e V) : ∃ m', Evo rb m m' W V := by
  cases h with
  | val h1 h2 h3 => exact ⟨_, h1⟩
  | raised h1 h2 h3 h4 h5 => exact ⟨_, h1⟩
  | stuck h1 h2 h3 => exact ⟨_, h1⟩
  | cut h1 h2 h3 => exact ⟨_, h1⟩

/-- bodies are evaluated as they should, to a depth -/
def BodyOk (rb B : Nat) (p : FlatP) (inp : List Int) (fuel n : Nat) : Prop :=
  ∀ (a : Anf) (e : PEnv) (s : FSt) (m : Mem) (W : World) (ga : Array Value) (ge : Value), BodyIn B W a ga → WfA p.funs.length a → EnvIn rb m W e ge → Good rb B p inp fuel s m W → s.left < n →
    Calls Try.prog 36 #[.pointer (some ⟨rb, 0, none⟩), .agg ga, ge] W (EvPost rb B p inp fuel m W (evF p.funs inp n a e s))

section
variable {rb B : Nat} {p : FlatP} {inp : List Int} {fuel n : Nat} {s : FSt} {m : Mem} {W : World}
/-- a step -/
def StepPost (rb B : Nat) (p : FlatP) (inp : List Int) (fuel : Nat) (s : FSt) (m : Mem) (W : World) (e : Ending) (W' : World) : Prop :=
  (0 < s.left ∧ e = .returned (.tuple #[]) ∧ Good rb B p inp fuel { s with left := s.left - 1 } m W' ∧ Evo rb m m W W') ∨ (s.left = 0 ∧ e = .panicked (stopV 3) ∧ Good rb B p inp fuel s m W' ∧ Evo rb m m W W')
set_option maxRecDepth 100000 in
theorem step_any (hg : Good rb B p inp fuel s m W) : Calls Try.prog 51 #[.pointer (some ⟨rb, 0, none⟩)] W (StepPost rb B p inp fuel s m W) := by
  obtain ⟨f0, f1, f2, f3, Ai, ci, hr, hfl, hi, hci⟩ := hg.run
  have hfu := hg.fuelB
  have hle := hg.left
  obtain ⟨st, hst⟩ : ∃ st : Int, st = (fuel : Int) - s.left := ⟨_, rfl⟩
  have hst0 : 0 ≤ st := by omega
  have hst2 : st ≤ 1000000 := by omega
  have c5 : W.cell? ⟨rb, 5, none⟩ = some (.int .i64 fuel) := by simp [World.cell?, hr]
  have c9 : W.cell? ⟨rb, 9, none⟩ = some (.int .i64 st) := by simp [World.cell?, hr, hst]
  have z9 : W.frozen? ⟨rb, 9, none⟩ = false := by simp [World.frozen?, hr]
  have hw : IntKind.i64.wrap (st + 1) = st + 1 := by rw [IntKind.wrap_i64]; omega
  by_cases h0 : s.left = 0
  · have hlt : ¬ st < (fuel : Int) := by omega
    have hge : (fuel : Int) ≤ st := by omega
    have HP := Lib.hid (fun (nq : Nat) => (show StepPost rb B p inp fuel s m W (.panicked (stopV 3)) (W.drewN nq) from
      .inr ⟨h0, rfl, hg.below (below_drewN (Below.refl _ _) _), Evo.below (below_drewN (Below.refl _ _) _)⟩))
    clear hg hr hfl hi hci h0 hst hle
    go_enter Try.func51, Try.ntmps51
    go_wp2_with fail
    go_quiet (fail)
    go_wp2_with fail
    exact ⟨rfl, HP.out _⟩
  · have hlt : st < (fuel : Int) := by omega
    have hge : ¬ (fuel : Int) ≤ st := by omega
    have HP := Lib.hid (fun (nq : Nat) => (show StepPost rb B p inp fuel s m W (.returned (.tuple #[])) ((W.drewN nq).setCell ⟨rb, 9, none⟩ (.int .i64 (st + 1))) from by
      obtain ⟨q1, q2⟩ := (hg.below (below_drewN (Below.refl _ _) nq)).step (by omega)
      rw [← hst] at q1 q2
      exact .inl ⟨by omega, rfl, q1, (Evo.below (below_drewN (Below.refl _ _) nq)).trans q2⟩))
    clear hg hr hfl hi hci h0 hst hle
    go_enter Try.func51, Try.ntmps51
    go_wp2_with fail
    go_quiet (fail)
    go_wp2_with fail
    go_end0
    exact HP.out _
end
end Go.Proofs.Ytnobggabjpcbfaa

/-
  The flat evaluator: a call.
-/
set_option linter.unusedVariables false
set_option linter.unusedSimpArgs false
namespace Go.Proofs.Ytnobggabjpcbfaa
open Go.RowKit

theorem EvPost.inv {rb B : Nat} {p : FlatP} {inp : List Int} {fuel : Nat} {m : Mem} {W : World} {o : FOut} {e : Ending} {V : World} (h : EvPost rb B p inp fuel m W o e V) :
    (∃ v s' m' T x, o = (.val v, s') ∧ e = .returned (.iface T x) ∧ Evo rb m m' W V ∧ Good rb B p inp fuel s' m' V ∧ RepV rb m' V v (.iface T x)) ∨
      (∃ ch, e = .panicked ch ∧ (∀ v s', o ≠ (.val v, s')) ∧ EvPost rb B p inp fuel m W o (.panicked ch) V ∧ ∀ f, EvPost rb B p inp fuel m W (FOut.andThen o f) (.panicked ch) V) := by
  cases h with
  | val h1 h2 h3 => obtain ⟨T, x, rfl⟩ := h3.shape; exact .inl ⟨_, _, _, T, x, rfl, rfl, h1, h2, h3⟩
  | raised h1 h2 h3 h4 h5 => exact .inr ⟨_, rfl, by simp, .raised h1 h2 h3 h4 h5, fun f => .raised h1 h2 h3 h4 h5⟩
  | stuck h1 h2 h3 => exact .inr ⟨_, rfl, by simp, .stuck h1 h2 h3, fun f => .stuck h1 h2 h3⟩
  | cut h1 h2 h3 => exact .inr ⟨_, rfl, by simp, .cut h1 h2 h3, fun f => .cut h1 h2 h3⟩
theorem two_new1 (X : World) (a b : Obj) : ((X.alloc a).alloc b).heap[X.heap.size]? = some a :=
  (((Below.refl _ _).alloc (Nat.le_refl _) b : Below (X.alloc a).heap.size (X.alloc a) _).block X.heap.size (by simp)).trans (World.alloc_heap_new X a)
theorem two_new2 (X : World) (a b : Obj) : ((X.alloc a).alloc b).heap[X.heap.size + 1]? = some b := by
  have := World.alloc_heap_new (X.alloc a) b
  rwa [World.size_alloc] at this
theorem below_two (X : World) (a b : Obj) : Below X.heap.size X ((X.alloc a).alloc b) := ((Below.refl _ _).alloc (Nat.le_refl _) _).alloc (by rw [World.size_alloc]; exact Nat.le_succ _) _

theorem three_new1 (X : World) (f a b : Obj) : (((X.alloc f).alloc a).alloc b).drew.heap[X.heap.size + 1]? = some a := by
  have := two_new1 (X.alloc f) a b
  rwa [World.size_alloc] at this
theorem three_new2 (X : World) (f a b : Obj) : (((X.alloc f).alloc a).alloc b).drew.heap[X.heap.size + 1 + 1]? = some b := by
  have := two_new2 (X.alloc f) a b
  rwa [World.size_alloc] at this
theorem below_three (X : World) (f a b : Obj) : Below X.heap.size X (((X.alloc f).alloc a).alloc b).drew := ((below_two X f a).alloc (by rw [World.size_alloc, World.size_alloc]; omega) b).drew

section
variable {rb B : Nat} {p : FlatP} {inp : List Int} {fuel n : Nat} {s : FSt} {m : Mem} {W : World}
set_option maxRecDepth 100000 in
set_option maxHeartbeats 1000000 in
theorem call_fn (hok : BodyOk rb B p inp fuel n) (hwf : ∀ g ∈ p.funs, WfA p.funs.length g.body) (i : Nat) (a : PV) {gf ga : Value} (hf : RepV rb m W (.fn i) gf) (ha : RepV rb m W a ga) (hg : Good rb B p inp fuel s m W) (hn : s.left ≤ n) :
    Calls Try.prog 66 #[.pointer (some ⟨rb, 0, none⟩), gf, ga] W (EvPost rb B p inp fuel m W (callF p.funs (evF p.funs inp n) (.fn i) a s)) := by
  obtain ⟨Ta, xa, rfl⟩ := ha.shape
  have hf0 := hf
  cases hf with
  | @fn i b hb =>
    have hlen : i < s.made.length := by rw [← hg.falen]; exact (List.getElem?_eq_some_iff.1 hb).1
    obtain ⟨b', A, cap, h1, h2, h3, h255, h4, h5, h6⟩ := hg.fns i hlen
    rw [hb] at h1
    cases h1
    obtain ⟨j, hj⟩ : ∃ j : Nat, s.made[i].1 = (j : Int) := ⟨s.made[i].1.toNat, by omega⟩
    have hjl : j < p.funs.length := by omega
    have hstep := Lib.hid (step_any hg)
    rw [hj] at h2
    have hcall : callF p.funs (evF p.funs inp n) (.fn i) a s = if s.left = 0 then (.cut, s) else evF p.funs inp n p.funs[j].body [(p.funs[j].param, a), (p.funs[j].env, .fn i)] { s with left := s.left - 1 } := by
      simp [callF, List.getElem?_eq_getElem hlen, hj, List.getElem?_eq_getElem hjl]
    obtain ⟨out, hout⟩ : ∃ out, callF p.funs (evF p.funs inp n) (.fn i) a s = out := ⟨_, rfl⟩
    rw [hout]
    have HO := Lib.hid (hout.symm.trans hcall)
    clear hout
    -- what stands in memory behind the step
    have HS := Lib.hid (fun (V : World) (s' : FSt) (hgV : Good rb B p inp fuel s' m V) (hE : Evo rb m m W V) => (show ∃ Af cf b2 o2 g0 g1 g2 f1 f2 f3, V.cell? ⟨rb, 0, none⟩ = some (.slice (some ⟨b2, o2, none⟩) p.funs.length cf) ∧ p.funs.length ≤ cf ∧ V.cell? ⟨b, 0, none⟩ = some (.int .i64 (j : Int)) ∧
        V.cell? ⟨b2, o2 + j * 5, none⟩ = some (.int .i64 p.funs[j].env) ∧ V.cell? ⟨b2, o2 + j * 5 + 1, none⟩ = some (.int .i64 p.funs[j].param) ∧ V.cell? ⟨b2, o2 + j * 5 + 2, none⟩ = some g0 ∧ V.cell? ⟨b2, o2 + j * 5 + 3, none⟩ = some g1 ∧ V.cell? ⟨b2, o2 + j * 5 + 4, none⟩ = some g2 ∧
        BodyIn B V p.funs[j].body #[g0, g1, g2] ∧ Af = (0 : Nat) ∧ f1 = (0 : Nat) ∧ f2 = (0 : Nat) ∧ f3 = (0 : Nat) from by
      obtain ⟨f0, f1, f2, f3, Ai, ci, hr, hfl, -, -⟩ := hgV.run
      obtain ⟨Af, cf, b2, o2, m0, m1, m2, hv, k1, k2, k3, k4, k5⟩ := hfl
      simp only [Array.mk.injEq, List.cons.injEq, and_true] at hv
      obtain ⟨rfl, rfl, rfl, rfl⟩ := hv
      obtain ⟨rfl, -⟩ := k4 (by omega)
      obtain ⟨g0, g1, g2, e0, e1, e2, e3, e4, e5⟩ := k5 j hjl
      exact ⟨0, cf, b2, o2, g0, g1, g2, 0, 0, 0, by simp [World.cell?, hr], k1, at_cell0 (h2.evo hE) rfl, e0, e1, e2, e3, e4, e5, rfl, rfl, rfl, rfl⟩))
    have HC := Lib.hid (fun (V V2 : World) (k1 k2 : Nat) (g0 g1 g2 : Value) (hgV : Good rb B p inp fuel { s with left := s.left - 1 } m V) (hE : Evo rb m m W V) (hbd : BodyIn B V p.funs[j].body #[g0, g1, g2]) (hl : 0 < s.left) (hV2 : Below V.heap.size V V2) (l1 : V.heap.size ≤ k1) (l2 : V.heap.size ≤ k2)
        (q1 : V2.heap[k1]? = some (.cells #[.int .i64 p.funs[j].env, .iface 109 (.pointer (some ⟨b, 0, none⟩)), .pointer none] 99 (0, 0)))
        (q2 : V2.heap[k2]? = some (.cells #[.int .i64 p.funs[j].param, .iface Ta xa, .pointer (some ⟨k1, 0, none⟩)] 99 (0, 0))) =>
      (show Calls Try.prog 36 #[.pointer (some ⟨rb, 0, none⟩), .agg #[g0, g1, g2], .pointer (some ⟨k2, 0, none⟩)] V2 (EvPost rb B p inp fuel m W (evF p.funs inp n p.funs[j].body [(p.funs[j].param, a), (p.funs[j].env, .fn i)] { s with left := s.left - 1 })) from by
        have hE2 : Evo rb m m V V2 := Evo.below hV2
        have hEE := hE.trans hE2
        have hbV : Below B V V2 := hV2.mono hgV.Bs
        have henv : EnvIn rb m V2 [(p.funs[j].param, a), (p.funs[j].env, .fn i)] (.pointer (some ⟨k2, 0, none⟩)) :=
          .cons ⟨q2, fun hm => by have := hgV.mutLt hm; omega⟩ (ha.evo hEE) (.cons ⟨q1, fun hm => by have := hgV.mutLt hm; omega⟩ (hf0.evo hEE) .nil)
        exact (hok _ _ _ m V2 _ _ (hbd.kept hbV) (hwf _ (List.getElem_mem hjl)) henv (hgV.below hV2) (by show s.left - 1 < n; omega)).mono fun e V' h => h.from_ hEE))
    have HJ := Lib.hid hjl
    have HST := Lib.hid (fun (h : s.left = 0) (V : World) (hgV : Good rb B p inp fuel s m V) (hE : Evo rb m m W V) => (show EvPost rb B p inp fuel m W (.cut, s) (.panicked (stopV 3)) V from .cut hE hgV (thrown_one _ _)))
    have hjl0 : (j : Int) < (p.funs.length : Int) := by omega
    generalize evF p.funs inp n p.funs[j].body [(p.funs[j].param, a), (p.funs[j].env, .fn i)] { s with left := s.left - 1 } = o at HC HO
    generalize p.funs[j].env = ee at *
    generalize p.funs[j].param = pp at *
    generalize p.funs[j].body = bo at *
    clear hcall hok hg h2 h3 h4 ha hf0 hb h5 h6 hj hwf h255
    have hj0 : (0 : Int) ≤ (j : Int) := by omega
    generalize p.funs.length = NF at *
    go_enter Try.func66, Try.ntmps66
    go_wp2_with fail
    refine hstep.out.mono ?_
    rintro e V1 (⟨hl, rfl, hgV, hE⟩ | ⟨hl, rfl, hgV, hE⟩)
    · have hl0 : s.left ≠ 0 := by omega
      have ho := HO.out
      rw [if_neg hl0] at ho
      subst ho
      obtain ⟨-, cf, b2, o2, g0, g1, g2, -, -, -, c0, hcf, cb, e0, e1, e2, e3, e4, hbd, -, -, -, -⟩ := HS.out V1 _ hgV hE
      obtain ⟨A0, d0, bb0, oo0, hv, -⟩ := hbd.at_
      simp only [Array.mk.injEq, List.cons.injEq, and_true] at hv
      obtain ⟨rfl, rfl, rfl⟩ := hv
      have l0 : rb < V1.heap.size := World.block_lt_of_cell? _ _ c0
      have l1 : b < V1.heap.size := World.block_lt_of_cell? _ _ cb
      have l2 : b2 < V1.heap.size := World.block_lt_of_cell? _ _ e0
      have HC1 := Lib.hid (fun (V2 : World) (k1 k2 : Nat) => HC.out V1 V2 k1 k2 _ _ _ hgV hE hbd hl)
      clear HC HS hgV hE hbd hstep HST hl hl0 HO
      go_wp2_with fail
      go_region
      all_goals go_wp2_with fail
      all_goals
        refine (HC1.out _ _ _ (below_three _ _ _ _) (Nat.le_succ _) (Nat.le_succ_of_le (Nat.le_succ _)) (three_new1 _ _ _ _) (three_new2 _ _ _ _)).mono ?_
        intro e V' h
        rcases h.ends with ⟨g, rfl, hP⟩ | ⟨ch, rfl, hP⟩
        · go_wp2_with fail
          go_ret
          exact hP
        · exact ⟨rfl, hP⟩
    · have ho := HO.out
      rw [if_pos hl] at ho
      subst ho
      exact ⟨rfl, HST.out hl _ hgV hE⟩
theorem call_other (T : TypeId) (hT : T = 90 ∨ T = 91 ∨ T = 117) (x ga : Value) (r : Value) (W : World) :
    Calls Try.prog 66 #[r, .iface T x, ga] W fun e w' => e = .panicked (stopV 4) ∧ W = w' := by
  rcases hT with rfl | rfl | rfl
  all_goals
    go_enter Try.func66, Try.ntmps66
    go_wp2_with (go_at_call 50; refine (stuck_any _).mono ?_; rintro e w' ⟨rfl, rfl⟩)
    exact ⟨rfl, rfl, rfl⟩
theorem call_any (hok : BodyOk rb B p inp fuel n) (hwf : ∀ g ∈ p.funs, WfA p.funs.length g.body) (f a : PV) {gf ga : Value} (hf : RepV rb m W f gf) (ha : RepV rb m W a ga) (hg : Good rb B p inp fuel s m W) (hn : s.left ≤ n) :
    Calls Try.prog 66 #[.pointer (some ⟨rb, 0, none⟩), gf, ga] W (EvPost rb B p inp fuel m W (callF p.funs (evF p.funs inp n) f a s)) := by
  have hst : ∀ e w', e = .panicked (stopV 4) ∧ W = w' → EvPost rb B p inp fuel m W (.stuck, s) e w' := fun e w' h => by
    obtain ⟨rfl, rfl⟩ := h
    exact .stuck (Evo.refl _ _ _) hg (thrown_one _ _)
  cases f with
  | fn i => exact call_fn hok hwf i a hf ha hg hn
  | int k => cases hf; exact (call_other _ (.inl rfl) _ _ _ W).mono hst
  | blk t l => cases hf; exact (call_other _ (.inr (.inl rfl)) _ _ _ W).mono hst
  | ref i => cases hf; exact (call_other _ (.inr (.inr rfl)) _ _ _ W).mono hst
end
end Go.Proofs.Ytnobggabjpcbfaa
