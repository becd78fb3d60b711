/-
 1 texts of this seat in one: S2.
-/
import Derived.Test.YtnobggabjpcbfaaGreatQI21
set_option maxRecDepth 100000
set_option maxHeartbeats 16000000
set_option linter.unusedVariables false
set_option linter.unusedSimpArgs false
namespace Go.Proofs.YtnobggabjpcbfaaGreat
open Go.RowKit
section
variable (x n : Int) (Aa Ak Al : Option Addr) (na ca ck nb cb : Nat) (ks : List Int) (w : World)
theorem rcount_atom : Calls Tryz.prog 67 #[.agg #[.int .i64 x, .int .i64 1, .int .i64 n, .slice Aa na ca, .slice Ak ks.length ck, .slice Al nb cb]] w fun e w' => e = .returned (.bool (countB x 1 n na ks nb)) ∧ Below w.heap.size w w' := by
 obtain ⟨W0, hW0⟩ : ∃ W0, w.alloc (.cells #[.int .i64 x, .int .i64 1, .int .i64 n, .slice Aa na ca, .slice Ak ks.length ck, .slice Al nb cb] 62) = W0 := ⟨_, rfl⟩
 have hb0 : Below w.heap.size w W0 := by rw [← hW0]; exact (Below.refl _ _).alloc (Nat.le_refl _) _
 have hs0 : w.heap.size < W0.heap.size := by rw [← hW0]; simp
 obtain ⟨W1, hW1⟩ : ∃ W1, W0.alloc (.cells #[.int .i64 1, .int .i64 n, .slice Aa na ca, .slice Ak ks.length ck, .slice Al nb cb] 60) = W1 := ⟨_, rfl⟩
 have hb1 : Below W0.heap.size W0 W1 := by rw [← hW1]; exact (Below.refl _ _).alloc (Nat.le_refl _) _
 have d0 : W0.cell? ⟨w.heap.size, 0, none⟩ = some (.int .i64 x) := by rw [← hW0, World.cell?_alloc_at _ _ _ _ rfl]; rfl
 have d1 : W0.cell? ⟨w.heap.size, 1, none⟩ = some (.int .i64 1) := by rw [← hW0, World.cell?_alloc_at _ _ _ _ rfl]; rfl
 have d2 : W0.cell? ⟨w.heap.size, 2, none⟩ = some (.int .i64 n) := by rw [← hW0, World.cell?_alloc_at _ _ _ _ rfl]; rfl
 have d3 : W0.cell? ⟨w.heap.size, 3, none⟩ = some (.slice Aa na ca) := by rw [← hW0, World.cell?_alloc_at _ _ _ _ rfl]; rfl
 have d4 : W0.cell? ⟨w.heap.size, 4, none⟩ = some (.slice Ak ks.length ck) := by rw [← hW0, World.cell?_alloc_at _ _ _ _ rfl]; rfl
 have d5 : W0.cell? ⟨w.heap.size, 5, none⟩ = some (.slice Al nb cb) := by rw [← hW0, World.cell?_alloc_at _ _ _ _ rfl]; rfl
 have hR : RhsAt W0 W1 W0.heap.size 1 n Aa Ak Al na ca ks.length ck nb cb := by rw [← hW1]; exact RhsAt.new _ _ _ _ _ _ _ _ _ _ _ _
 obtain ⟨c0, c1, c2, c3, c4, cl⟩ := hR
 have g0 : W1.cell? ⟨w.heap.size, 0, none⟩ = some (.int .i64 x) := (hb1.cell (p := ⟨w.heap.size, 0, none⟩) hs0).trans d0
 have HB := Lib.hid (hb0.trans (hb1.mono hb0.size))
 clear hb0 hb1
 go_enter Tryz.func67, Tryz.ntmps67
 go_wp2_with (first | (go_at_call 43; refine (is_any _ _ _ _).mono ?_; rintro en w' ⟨rfl, rfl⟩) | (go_at_call 86; refine (rargs_any _ _).mono ?_; rintro en w' ⟨rfl, rfl⟩))
 go_ret
 exact ⟨ret_bool (by have := nat_eq_bool na 1; simpa [countB] using this), HB.out⟩
theorem rcount_field : Calls Tryz.prog 67 #[.agg #[.int .i64 x, .int .i64 4, .int .i64 n, .slice Aa na ca, .slice Ak ks.length ck, .slice Al nb cb]] w fun e w' => e = .returned (.bool (countB x 4 n na ks nb)) ∧ Below w.heap.size w w' := by
 obtain ⟨W0, hW0⟩ : ∃ W0, w.alloc (.cells #[.int .i64 x, .int .i64 4, .int .i64 n, .slice Aa na ca, .slice Ak ks.length ck, .slice Al nb cb] 62) = W0 := ⟨_, rfl⟩
 have hb0 : Below w.heap.size w W0 := by rw [← hW0]; exact (Below.refl _ _).alloc (Nat.le_refl _) _
 have hs0 : w.heap.size < W0.heap.size := by rw [← hW0]; simp
 obtain ⟨W1, hW1⟩ : ∃ W1, W0.alloc (.cells #[.int .i64 4, .int .i64 n, .slice Aa na ca, .slice Ak ks.length ck, .slice Al nb cb] 60) = W1 := ⟨_, rfl⟩
 have hb1 : Below W0.heap.size W0 W1 := by rw [← hW1]; exact (Below.refl _ _).alloc (Nat.le_refl _) _
 have d0 : W0.cell? ⟨w.heap.size, 0, none⟩ = some (.int .i64 x) := by rw [← hW0, World.cell?_alloc_at _ _ _ _ rfl]; rfl
 have d1 : W0.cell? ⟨w.heap.size, 1, none⟩ = some (.int .i64 4) := by rw [← hW0, World.cell?_alloc_at _ _ _ _ rfl]; rfl
 have d2 : W0.cell? ⟨w.heap.size, 2, none⟩ = some (.int .i64 n) := by rw [← hW0, World.cell?_alloc_at _ _ _ _ rfl]; rfl
 have d3 : W0.cell? ⟨w.heap.size, 3, none⟩ = some (.slice Aa na ca) := by rw [← hW0, World.cell?_alloc_at _ _ _ _ rfl]; rfl
 have d4 : W0.cell? ⟨w.heap.size, 4, none⟩ = some (.slice Ak ks.length ck) := by rw [← hW0, World.cell?_alloc_at _ _ _ _ rfl]; rfl
 have d5 : W0.cell? ⟨w.heap.size, 5, none⟩ = some (.slice Al nb cb) := by rw [← hW0, World.cell?_alloc_at _ _ _ _ rfl]; rfl
 have hR : RhsAt W0 W1 W0.heap.size 4 n Aa Ak Al na ca ks.length ck nb cb := by rw [← hW1]; exact RhsAt.new _ _ _ _ _ _ _ _ _ _ _ _
 obtain ⟨c0, c1, c2, c3, c4, cl⟩ := hR
 have g0 : W1.cell? ⟨w.heap.size, 0, none⟩ = some (.int .i64 x) := (hb1.cell (p := ⟨w.heap.size, 0, none⟩) hs0).trans d0
 have HB := Lib.hid (hb0.trans (hb1.mono hb0.size))
 clear hb0 hb1
 go_enter Tryz.func67, Tryz.ntmps67
 go_wp2_with (first | (go_at_call 43; refine (is_any _ _ _ _).mono ?_; rintro en w' ⟨rfl, rfl⟩) | (go_at_call 86; refine (rargs_any _ _).mono ?_; rintro en w' ⟨rfl, rfl⟩))
 go_ret
 exact ⟨ret_bool (by have := nat_eq_bool na 1; simpa [countB] using this), HB.out⟩
theorem rcount_app : Calls Tryz.prog 67 #[.agg #[.int .i64 x, .int .i64 6, .int .i64 n, .slice Aa na ca, .slice Ak ks.length ck, .slice Al nb cb]] w fun e w' => e = .returned (.bool (countB x 6 n na ks nb)) ∧ Below w.heap.size w w' := by
 obtain ⟨W0, hW0⟩ : ∃ W0, w.alloc (.cells #[.int .i64 x, .int .i64 6, .int .i64 n, .slice Aa na ca, .slice Ak ks.length ck, .slice Al nb cb] 62) = W0 := ⟨_, rfl⟩
 have hb0 : Below w.heap.size w W0 := by rw [← hW0]; exact (Below.refl _ _).alloc (Nat.le_refl _) _
 have hs0 : w.heap.size < W0.heap.size := by rw [← hW0]; simp
 obtain ⟨W1, hW1⟩ : ∃ W1, W0.alloc (.cells #[.int .i64 6, .int .i64 n, .slice Aa na ca, .slice Ak ks.length ck, .slice Al nb cb] 60) = W1 := ⟨_, rfl⟩
 have hb1 : Below W0.heap.size W0 W1 := by rw [← hW1]; exact (Below.refl _ _).alloc (Nat.le_refl _) _
 have d0 : W0.cell? ⟨w.heap.size, 0, none⟩ = some (.int .i64 x) := by rw [← hW0, World.cell?_alloc_at _ _ _ _ rfl]; rfl
 have d1 : W0.cell? ⟨w.heap.size, 1, none⟩ = some (.int .i64 6) := by rw [← hW0, World.cell?_alloc_at _ _ _ _ rfl]; rfl
 have d2 : W0.cell? ⟨w.heap.size, 2, none⟩ = some (.int .i64 n) := by rw [← hW0, World.cell?_alloc_at _ _ _ _ rfl]; rfl
 have d3 : W0.cell? ⟨w.heap.size, 3, none⟩ = some (.slice Aa na ca) := by rw [← hW0, World.cell?_alloc_at _ _ _ _ rfl]; rfl
 have d4 : W0.cell? ⟨w.heap.size, 4, none⟩ = some (.slice Ak ks.length ck) := by rw [← hW0, World.cell?_alloc_at _ _ _ _ rfl]; rfl
 have d5 : W0.cell? ⟨w.heap.size, 5, none⟩ = some (.slice Al nb cb) := by rw [← hW0, World.cell?_alloc_at _ _ _ _ rfl]; rfl
 have hR : RhsAt W0 W1 W0.heap.size 6 n Aa Ak Al na ca ks.length ck nb cb := by rw [← hW1]; exact RhsAt.new _ _ _ _ _ _ _ _ _ _ _ _
 obtain ⟨c0, c1, c2, c3, c4, cl⟩ := hR
 have g0 : W1.cell? ⟨w.heap.size, 0, none⟩ = some (.int .i64 x) := (hb1.cell (p := ⟨w.heap.size, 0, none⟩) hs0).trans d0
 have HB := Lib.hid (hb0.trans (hb1.mono hb0.size))
 clear hb0 hb1
 go_enter Tryz.func67, Tryz.ntmps67
 go_wp2_with (first | (go_at_call 43; refine (is_any _ _ _ _).mono ?_; rintro en w' ⟨rfl, rfl⟩) | (go_at_call 86; refine (rargs_any _ _).mono ?_; rintro en w' ⟨rfl, rfl⟩))
 go_ret
 exact ⟨ret_bool (by have := nat_eq_bool na 2; simpa [countB] using this), HB.out⟩
theorem rcount_block : Calls Tryz.prog 67 #[.agg #[.int .i64 x, .int .i64 3, .int .i64 n, .slice Aa na ca, .slice Ak ks.length ck, .slice Al nb cb]] w fun e w' => e = .returned (.bool (countB x 3 n na ks nb)) ∧ Below w.heap.size w w' := by
 obtain ⟨W0, hW0⟩ : ∃ W0, w.alloc (.cells #[.int .i64 x, .int .i64 3, .int .i64 n, .slice Aa na ca, .slice Ak ks.length ck, .slice Al nb cb] 62) = W0 := ⟨_, rfl⟩
 have hb0 : Below w.heap.size w W0 := by rw [← hW0]; exact (Below.refl _ _).alloc (Nat.le_refl _) _
 have hs0 : w.heap.size < W0.heap.size := by rw [← hW0]; simp
 obtain ⟨W1, hW1⟩ : ∃ W1, W0.alloc (.cells #[.int .i64 3, .int .i64 n, .slice Aa na ca, .slice Ak ks.length ck, .slice Al nb cb] 60) = W1 := ⟨_, rfl⟩
 have hb1 : Below W0.heap.size W0 W1 := by rw [← hW1]; exact (Below.refl _ _).alloc (Nat.le_refl _) _
 have d0 : W0.cell? ⟨w.heap.size, 0, none⟩ = some (.int .i64 x) := by rw [← hW0, World.cell?_alloc_at _ _ _ _ rfl]; rfl
 have d1 : W0.cell? ⟨w.heap.size, 1, none⟩ = some (.int .i64 3) := by rw [← hW0, World.cell?_alloc_at _ _ _ _ rfl]; rfl
 have d2 : W0.cell? ⟨w.heap.size, 2, none⟩ = some (.int .i64 n) := by rw [← hW0, World.cell?_alloc_at _ _ _ _ rfl]; rfl
 have d3 : W0.cell? ⟨w.heap.size, 3, none⟩ = some (.slice Aa na ca) := by rw [← hW0, World.cell?_alloc_at _ _ _ _ rfl]; rfl
 have d4 : W0.cell? ⟨w.heap.size, 4, none⟩ = some (.slice Ak ks.length ck) := by rw [← hW0, World.cell?_alloc_at _ _ _ _ rfl]; rfl
 have d5 : W0.cell? ⟨w.heap.size, 5, none⟩ = some (.slice Al nb cb) := by rw [← hW0, World.cell?_alloc_at _ _ _ _ rfl]; rfl
 have hR : RhsAt W0 W1 W0.heap.size 3 n Aa Ak Al na ca ks.length ck nb cb := by rw [← hW1]; exact RhsAt.new _ _ _ _ _ _ _ _ _ _ _ _
 obtain ⟨c0, c1, c2, c3, c4, cl⟩ := hR
 have g0 : W1.cell? ⟨w.heap.size, 0, none⟩ = some (.int .i64 x) := (hb1.cell (p := ⟨w.heap.size, 0, none⟩) hs0).trans d0
 have HB := Lib.hid (hb0.trans (hb1.mono hb0.size))
 clear hb0 hb1
 go_enter Tryz.func67, Tryz.ntmps67
 go_wp2_with (first | (go_at_call 43; refine (is_any _ _ _ _).mono ?_; rintro en w' ⟨rfl, rfl⟩) | (go_at_call 86; refine (rargs_any _ _).mono ?_; rintro en w' ⟨rfl, rfl⟩))
 go_ret
 exact ⟨ret_bool (by simp [countB]), HB.out⟩
theorem rcount_close : Calls Tryz.prog 67 #[.agg #[.int .i64 x, .int .i64 9, .int .i64 n, .slice Aa na ca, .slice Ak ks.length ck, .slice Al nb cb]] w fun e w' => e = .returned (.bool (countB x 9 n na ks nb)) ∧ Below w.heap.size w w' := by
 obtain ⟨W0, hW0⟩ : ∃ W0, w.alloc (.cells #[.int .i64 x, .int .i64 9, .int .i64 n, .slice Aa na ca, .slice Ak ks.length ck, .slice Al nb cb] 62) = W0 := ⟨_, rfl⟩
 have hb0 : Below w.heap.size w W0 := by rw [← hW0]; exact (Below.refl _ _).alloc (Nat.le_refl _) _
 have hs0 : w.heap.size < W0.heap.size := by rw [← hW0]; simp
 obtain ⟨W1, hW1⟩ : ∃ W1, W0.alloc (.cells #[.int .i64 9, .int .i64 n, .slice Aa na ca, .slice Ak ks.length ck, .slice Al nb cb] 60) = W1 := ⟨_, rfl⟩
 have hb1 : Below W0.heap.size W0 W1 := by rw [← hW1]; exact (Below.refl _ _).alloc (Nat.le_refl _) _
 have d0 : W0.cell? ⟨w.heap.size, 0, none⟩ = some (.int .i64 x) := by rw [← hW0, World.cell?_alloc_at _ _ _ _ rfl]; rfl
 have d1 : W0.cell? ⟨w.heap.size, 1, none⟩ = some (.int .i64 9) := by rw [← hW0, World.cell?_alloc_at _ _ _ _ rfl]; rfl
 have d2 : W0.cell? ⟨w.heap.size, 2, none⟩ = some (.int .i64 n) := by rw [← hW0, World.cell?_alloc_at _ _ _ _ rfl]; rfl
 have d3 : W0.cell? ⟨w.heap.size, 3, none⟩ = some (.slice Aa na ca) := by rw [← hW0, World.cell?_alloc_at _ _ _ _ rfl]; rfl
 have d4 : W0.cell? ⟨w.heap.size, 4, none⟩ = some (.slice Ak ks.length ck) := by rw [← hW0, World.cell?_alloc_at _ _ _ _ rfl]; rfl
 have d5 : W0.cell? ⟨w.heap.size, 5, none⟩ = some (.slice Al nb cb) := by rw [← hW0, World.cell?_alloc_at _ _ _ _ rfl]; rfl
 have hR : RhsAt W0 W1 W0.heap.size 9 n Aa Ak Al na ca ks.length ck nb cb := by rw [← hW1]; exact RhsAt.new _ _ _ _ _ _ _ _ _ _ _ _
 obtain ⟨c0, c1, c2, c3, c4, cl⟩ := hR
 have g0 : W1.cell? ⟨w.heap.size, 0, none⟩ = some (.int .i64 x) := (hb1.cell (p := ⟨w.heap.size, 0, none⟩) hs0).trans d0
 have HB := Lib.hid (hb0.trans (hb1.mono hb0.size))
 clear hb0 hb1
 go_enter Tryz.func67, Tryz.ntmps67
 go_wp2_with (first | (go_at_call 43; refine (is_any _ _ _ _).mono ?_; rintro en w' ⟨rfl, rfl⟩) | (go_at_call 86; refine (rargs_any _ _).mono ?_; rintro en w' ⟨rfl, rfl⟩))
 go_ret
 exact ⟨ret_bool (by simp [countB]), HB.out⟩
theorem rcount_prim : Calls Tryz.prog 67 #[.agg #[.int .i64 x, .int .i64 2, .int .i64 n, .slice Aa na ca, .slice Ak ks.length ck, .slice Al nb cb]] w fun e w' => e = .returned (.bool (countB x 2 n na ks nb)) ∧ Below w.heap.size w w' := by
 obtain ⟨W0, hW0⟩ : ∃ W0, w.alloc (.cells #[.int .i64 x, .int .i64 2, .int .i64 n, .slice Aa na ca, .slice Ak ks.length ck, .slice Al nb cb] 62) = W0 := ⟨_, rfl⟩
 have hb0 : Below w.heap.size w W0 := by rw [← hW0]; exact (Below.refl _ _).alloc (Nat.le_refl _) _
 have hs0 : w.heap.size < W0.heap.size := by rw [← hW0]; simp
 obtain ⟨W1, hW1⟩ : ∃ W1, W0.alloc (.cells #[.int .i64 2, .int .i64 n, .slice Aa na ca, .slice Ak ks.length ck, .slice Al nb cb] 60) = W1 := ⟨_, rfl⟩
 have hb1 : Below W0.heap.size W0 W1 := by rw [← hW1]; exact (Below.refl _ _).alloc (Nat.le_refl _) _
 have d0 : W0.cell? ⟨w.heap.size, 0, none⟩ = some (.int .i64 x) := by rw [← hW0, World.cell?_alloc_at _ _ _ _ rfl]; rfl
 have d1 : W0.cell? ⟨w.heap.size, 1, none⟩ = some (.int .i64 2) := by rw [← hW0, World.cell?_alloc_at _ _ _ _ rfl]; rfl
 have d2 : W0.cell? ⟨w.heap.size, 2, none⟩ = some (.int .i64 n) := by rw [← hW0, World.cell?_alloc_at _ _ _ _ rfl]; rfl
 have d3 : W0.cell? ⟨w.heap.size, 3, none⟩ = some (.slice Aa na ca) := by rw [← hW0, World.cell?_alloc_at _ _ _ _ rfl]; rfl
 have d4 : W0.cell? ⟨w.heap.size, 4, none⟩ = some (.slice Ak ks.length ck) := by rw [← hW0, World.cell?_alloc_at _ _ _ _ rfl]; rfl
 have d5 : W0.cell? ⟨w.heap.size, 5, none⟩ = some (.slice Al nb cb) := by rw [← hW0, World.cell?_alloc_at _ _ _ _ rfl]; rfl
 have hR : RhsAt W0 W1 W0.heap.size 2 n Aa Ak Al na ca ks.length ck nb cb := by rw [← hW1]; exact RhsAt.new _ _ _ _ _ _ _ _ _ _ _ _
 obtain ⟨c0, c1, c2, c3, c4, cl⟩ := hR
 have g0 : W1.cell? ⟨w.heap.size, 0, none⟩ = some (.int .i64 x) := (hb1.cell (p := ⟨w.heap.size, 0, none⟩) hs0).trans d0
 have HB := Lib.hid (hb0.trans (hb1.mono hb0.size))
 clear hb0 hb1
 obtain ⟨q, hq⟩ : ∃ q : Int, (if twoF n then (2 : Int) else 1) = q := ⟨_, rfl⟩
 have HT := Lib.hid (show countB x 2 n na ks nb = ((na : Int) == q) from by
  have h1 := nat_eq_bool na 1
  have h2 := nat_eq_bool na 2
  rw [← hq]
  cases ht : twoF n
  · simpa [countB, ht] using h1.symm
  · simpa [countB, ht] using h2.symm)
 have HA := Lib.hid (show ∀ w, Calls Tryz.prog 86 #[.int .i64 n] w fun e w' => e = .returned (.int .i64 q) ∧ w = w' from fun w => hq ▸ rargs_any n w)
 clear hq
 go_enter Tryz.func67, Tryz.ntmps67
 go_wp2_with (go_at_call 86; refine (HA.out _).mono ?_; rintro en w' ⟨rfl, rfl⟩)
 go_ret
 exact ⟨ret_bool HT.out.symm, HB.out⟩
theorem rcount_switch (hl : ks.length * 8 ≤ 140737488351232) : Calls Tryz.prog 67 #[.agg #[.int .i64 x, .int .i64 8, .int .i64 n, .slice Aa na ca, .slice Ak ks.length ck, .slice Al nb cb]] w fun e w' => e = .returned (.bool (countB x 8 n na ks nb)) ∧ Below w.heap.size w w' := by
 obtain ⟨W0, hW0⟩ : ∃ W0, w.alloc (.cells #[.int .i64 x, .int .i64 8, .int .i64 n, .slice Aa na ca, .slice Ak ks.length ck, .slice Al nb cb] 62) = W0 := ⟨_, rfl⟩
 have hb0 : Below w.heap.size w W0 := by rw [← hW0]; exact (Below.refl _ _).alloc (Nat.le_refl _) _
 have hs0 : w.heap.size < W0.heap.size := by rw [← hW0]; simp
 obtain ⟨W1, hW1⟩ : ∃ W1, W0.alloc (.cells #[.int .i64 8, .int .i64 n, .slice Aa na ca, .slice Ak ks.length ck, .slice Al nb cb] 60) = W1 := ⟨_, rfl⟩
 have hb1 : Below W0.heap.size W0 W1 := by rw [← hW1]; exact (Below.refl _ _).alloc (Nat.le_refl _) _
 have d0 : W0.cell? ⟨w.heap.size, 0, none⟩ = some (.int .i64 x) := by rw [← hW0, World.cell?_alloc_at _ _ _ _ rfl]; rfl
 have d1 : W0.cell? ⟨w.heap.size, 1, none⟩ = some (.int .i64 8) := by rw [← hW0, World.cell?_alloc_at _ _ _ _ rfl]; rfl
 have d2 : W0.cell? ⟨w.heap.size, 2, none⟩ = some (.int .i64 n) := by rw [← hW0, World.cell?_alloc_at _ _ _ _ rfl]; rfl
 have d3 : W0.cell? ⟨w.heap.size, 3, none⟩ = some (.slice Aa na ca) := by rw [← hW0, World.cell?_alloc_at _ _ _ _ rfl]; rfl
 have d4 : W0.cell? ⟨w.heap.size, 4, none⟩ = some (.slice Ak ks.length ck) := by rw [← hW0, World.cell?_alloc_at _ _ _ _ rfl]; rfl
 have d5 : W0.cell? ⟨w.heap.size, 5, none⟩ = some (.slice Al nb cb) := by rw [← hW0, World.cell?_alloc_at _ _ _ _ rfl]; rfl
 have hR : RhsAt W0 W1 W0.heap.size 8 n Aa Ak Al na ca ks.length ck nb cb := by rw [← hW1]; exact RhsAt.new _ _ _ _ _ _ _ _ _ _ _ _
 obtain ⟨c0, c1, c2, c3, c4, cl⟩ := hR
 have g0 : W1.cell? ⟨w.heap.size, 0, none⟩ = some (.int .i64 x) := (hb1.cell (p := ⟨w.heap.size, 0, none⟩) hs0).trans d0
 have HB := Lib.hid (hb0.trans (hb1.mono hb0.size))
 clear hb0 hb1
 have hw : IntKind.i64.wrap ((ks.length : Int) + 1) = (ks.length : Int) + 1 := by rw [IntKind.wrap_i64]; omega
 cases h1 : ((na : Int) == 1)
 · have HT := Lib.hid (show countB x 8 n na ks nb = false from by rw [show ((na : Int) == 1) = (na == 1) from nat_eq_bool na 1] at h1; simp [countB, h1])
   go_enter Tryz.func67, Tryz.ntmps67
   go_wp2_with (first | (go_at_call 43; refine (is_any _ _ _ _).mono ?_; rintro en w' ⟨rfl, rfl⟩) | (go_at_call 86; refine (rargs_any _ _).mono ?_; rintro en w' ⟨rfl, rfl⟩))
   go_ret
   exact ⟨ret_bool HT.out.symm, HB.out⟩
 · have HT := Lib.hid (show countB x 8 n na ks nb = ((nb : Int) == (ks.length : Int) + 1) from by rw [show ((na : Int) == 1) = (na == 1) from nat_eq_bool na 1] at h1; have := nat_eq_bool nb (ks.length + 1); simp [countB, h1]; simpa using this.symm)
   go_enter Tryz.func67, Tryz.ntmps67
   go_wp2_with (first | (go_at_call 43; refine (is_any _ _ _ _).mono ?_; rintro en w' ⟨rfl, rfl⟩) | (go_at_call 86; refine (rargs_any _ _).mono ?_; rintro en w' ⟨rfl, rfl⟩))
   go_ret
   exact ⟨ret_bool HT.out.symm, HB.out⟩
theorem rcount_group (hk : IntsIn w.heap.size w Ak ks) (hkc : ks.length ≤ ck) : Calls Tryz.prog 67 #[.agg #[.int .i64 x, .int .i64 10, .int .i64 n, .slice Aa na ca, .slice Ak ks.length ck, .slice Al nb cb]] w fun e w' => e = .returned (.bool (countB x 10 n na ks nb)) ∧ Below w.heap.size w w' := by
 have HK := Lib.hid (fun (V : World) (hV : Below w.heap.size w V) => (show 0 < ks.length → ∃ b o, Ak = some ⟨b, o, none⟩ ∧ ∀ j, j < ks.length → V.cell? ⟨b, o + j, none⟩ = some (.int .i64 (nth ks j)) from fun h0 => by
  obtain ⟨b, o, h1, h2, h3⟩ := hk.at_ h0
  exact ⟨b, o, h1, fun j hj => (hV.cell (p := ⟨_, _, none⟩) h2).trans (h3 j hj)⟩))
 have h64 := hk.1
 clear hk
 obtain ⟨W0, hW0⟩ : ∃ W0, w.alloc (.cells #[.int .i64 x, .int .i64 10, .int .i64 n, .slice Aa na ca, .slice Ak ks.length ck, .slice Al nb cb] 62) = W0 := ⟨_, rfl⟩
 have hb0 : Below w.heap.size w W0 := by rw [← hW0]; exact (Below.refl _ _).alloc (Nat.le_refl _) _
 have hs0 : w.heap.size < W0.heap.size := by rw [← hW0]; simp
 obtain ⟨W1, hW1⟩ : ∃ W1, W0.alloc (.cells #[.int .i64 10, .int .i64 n, .slice Aa na ca, .slice Ak ks.length ck, .slice Al nb cb] 60) = W1 := ⟨_, rfl⟩
 have hb1 : Below W0.heap.size W0 W1 := by rw [← hW1]; exact (Below.refl _ _).alloc (Nat.le_refl _) _
 have d0 : W0.cell? ⟨w.heap.size, 0, none⟩ = some (.int .i64 x) := by rw [← hW0, World.cell?_alloc_at _ _ _ _ rfl]; rfl
 have d1 : W0.cell? ⟨w.heap.size, 1, none⟩ = some (.int .i64 10) := by rw [← hW0, World.cell?_alloc_at _ _ _ _ rfl]; rfl
 have d2 : W0.cell? ⟨w.heap.size, 2, none⟩ = some (.int .i64 n) := by rw [← hW0, World.cell?_alloc_at _ _ _ _ rfl]; rfl
 have d3 : W0.cell? ⟨w.heap.size, 3, none⟩ = some (.slice Aa na ca) := by rw [← hW0, World.cell?_alloc_at _ _ _ _ rfl]; rfl
 have d4 : W0.cell? ⟨w.heap.size, 4, none⟩ = some (.slice Ak ks.length ck) := by rw [← hW0, World.cell?_alloc_at _ _ _ _ rfl]; rfl
 have d5 : W0.cell? ⟨w.heap.size, 5, none⟩ = some (.slice Al nb cb) := by rw [← hW0, World.cell?_alloc_at _ _ _ _ rfl]; rfl
 have hR : RhsAt W0 W1 W0.heap.size 10 n Aa Ak Al na ca ks.length ck nb cb := by rw [← hW1]; exact RhsAt.new _ _ _ _ _ _ _ _ _ _ _ _
 obtain ⟨c0, c1, c2, c3, c4, cl⟩ := hR
 have g0 : W1.cell? ⟨w.heap.size, 0, none⟩ = some (.int .i64 x) := (hb1.cell (p := ⟨w.heap.size, 0, none⟩) hs0).trans d0
 have HB := Lib.hid (hb0.trans (hb1.mono hb0.size))
 clear hb0 hb1
 obtain ⟨out, hout⟩ : ∃ o, countB x 10 n na ks nb = o := ⟨_, rfl⟩
 rw [hout]
 have HO := Lib.hid (show out = ((groupH ks).all (fun h => inB h 0 255) && decide (3 ≤ ks.length) && ks.length % 3 == 0 && sumL (groupH ks) == (na : Int) && nth ks 0 == x) from hout.symm.trans (by simp [countB]))
 clear hout
 have HKK := Lib.hid (HK.out W1 HB.out)
 clear HK
 have HG := Lib.hid (groupH_get' ks)
 have hl := groupH_len ks
 obtain ⟨L, hL⟩ : ∃ L, ks.length = L := ⟨_, rfl⟩
 rw [hL] at hW0 hW1 d4 c3 hkc HO HKK HG hl h64 ⊢
 clear hL
 have HL := Lib.hid hl
 have hm : (L : Int).tmod 3 = ((L % 3 : Nat) : Int) := by rw [Int.tmod_eq_emod_of_nonneg (by omega)]; omega
 obtain ⟨md, hmd⟩ : ∃ md : Int, (L : Int).tmod 3 = md := ⟨_, rfl⟩
 have HMD := Lib.hid (show (md == 0) = (L % 3 == 0) from by rw [← hmd, hm]; exact nat_eq_bool _ 0)
 clear hm
 by_cases h3 : 3 ≤ L
 · have e3 : decide ((L : Int) < 3) = false := by simp; omega
   cases y1 : (md == 0)
   · have HF := Lib.hid (show out = false from HO.out.trans (by rw [← HMD.out, y1]; simp))
     have y1' : (md != 0) = true := by simp only [bne, y1]; rfl
     clear y1
     go_enter Tryz.func67, Tryz.ntmps67
     go_wp2_with fail
     go_quiet (fail)
     go_wp2_with fail
     go_ret
     exact ⟨ret_bool HF.out.symm, below_drewN HB.out _⟩
   · have y1' : (md != 0) = false := by simp only [bne, y1]; rfl
     obtain ⟨b, o, rfl, hall⟩ := HKK.out (by omega)
     have qk0 := hall 0 (by omega)
     have HALL := Lib.hid hall
     clear hall
     simp only [Nat.add_zero] at qk0
     have e5 : (0 : Int) < (L : Int) := by omega
     have e6 : (L : Int) ≤ (ck : Int) := by omega
     cases y2 : (x == nth ks 0)
     · have HF := Lib.hid (show out = false from HO.out.trans (by
        have : (nth ks 0 == x) = false := by rw [← y2, Bool.eq_iff_iff, beq_iff_eq, beq_iff_eq]; exact eq_comm
        rw [this]; simp))
       have y2' : (x != nth ks 0) = true := by simp only [bne, y2]; rfl
       clear y1 y2
       go_enter Tryz.func67, Tryz.ntmps67
       go_wp2_with fail
       go_quiet (fail)
       go_wp2_with fail
       go_ret
       exact ⟨ret_bool HF.out.symm, below_drewN HB.out _⟩
     · have HO2 := Lib.hid (show out = ((groupH ks).all (fun h => inB h 0 255) && sumL (groupH ks) == (na : Int)) from HO.out.trans (by
        have : (nth ks 0 == x) = true := by rw [← y2, Bool.eq_iff_iff, beq_iff_eq, beq_iff_eq]; exact eq_comm
        rw [this, ← HMD.out, y1]; simp [h3]))
       have y2' : (x != nth ks 0) = false := by simp only [bne, y2]; rfl
       clear y1 y2 HO
       go_enter Tryz.func67, Tryz.ntmps67
       go_wp2_with fail
       go_quiet (fail)
       go_wp2_with fail
       go_loopw [5, 6] (fun hv iv wr => ∃ j q : Nat, 3 * j ≤ L ∧ iv = .int .i64 (3 * (j : Int) + 2) ∧ hv = .int .i64 (sumL ((groupH ks).take j)) ∧ wr = W1.drewN q ∧ Hid (((groupH ks).take j).all (fun h => inB h 0 255) = true) ∧ 0 ≤ sumL ((groupH ks).take j) ∧ sumL ((groupH ks).take j) ≤ 255 * (j : Int)) (fun _ iv _ => 3 * L + 9 - (intOf iv).toNat)
       case atStart => exact ⟨0, _, by omega, rfl, rfl, rfl, Lib.hid (by simp), by simp [sumL], by simp [sumL]⟩
       case round =>
        obtain ⟨j, q, hj, rfl, rfl, rfl, HA, hs1, hs2⟩ := hrel
        by_cases hlt : 3 * j + 2 < L
        · have qk := HALL.out (3 * j + 2) hlt
          have e1 : (0 : Int) ≤ 3 * (j : Int) + 2 := by omega
          have e2 : 3 * (j : Int) + 2 < (L : Int) := by omega
          have e3 : (3 * (j : Int) + 2).toNat = 3 * j + 2 := by omega
          have e4 : IntKind.i64.wrap (3 * (j : Int) + 2 + 3) = 3 * (j : Int) + 2 + 3 := by rw [IntKind.wrap_i64]; omega
          have HGJ := Lib.hid (HG.out j hlt)
          cases hin : inB (nth ks (3 * j + 2)) 0 255
          · have HF := Lib.hid (show out = false from HO2.out.trans (by rw [all_false HGJ.out hin]; rfl))
            go_wp2_with (go_at_call 43; refine (is_any _ _ _ _).mono ?_; rintro en w' ⟨rfl, rfl⟩)
            go_ret
            exact ⟨ret_bool HF.out.symm, below_drewN HB.out _⟩
          · have HA2 := Lib.hid (all_take_succ HGJ.out HA.out hin)
            have hrng := inB_iff.1 hin
            have hsum : sumL ((groupH ks).take (j + 1)) = sumL ((groupH ks).take j) + nth ks (3 * j + 2) := by
             rw [List.take_add_one, HGJ.out]
             exact sumL_append _ _
            have HSUM := Lib.hid hsum
            have e6 : IntKind.i64.wrap (sumL ((groupH ks).take j) + nth ks (3 * j + 2)) = sumL ((groupH ks).take j) + nth ks (3 * j + 2) := by rw [IntKind.wrap_i64]; omega
            clear hsum
            generalize hS : sumL ((groupH ks).take j) = S at *
            go_wp2_with (go_at_call 43; refine (is_any _ _ _ _).mono ?_; rintro en w' ⟨rfl, rfl⟩)
            go_roundw
            case rel => exact ⟨j + 1, _, by omega, by go_num, by rw [HSUM.out], (by first | rfl | trivial), HA2, by rw [HSUM.out]; omega, by rw [HSUM.out]; omega⟩
            case measure => simp [intOf]; omega
        · have e2 : ¬ 3 * (j : Int) + 2 < (L : Int) := by omega
          have hfin : (groupH ks).take j = groupH ks := List.take_of_length_le (by rw [HL.out]; omega)
          have HAA := HA.out
          rw [hfin] at HAA hs1 hs2 ⊢
          have HF := Lib.hid (show out = (sumL (groupH ks) == (na : Int)) from HO2.out.trans (by rw [HAA]; simp))
          clear hfin HAA HA
          generalize sumL (groupH ks) = S at *
          go_wp2_with fail
          go_ret
          exact ⟨ret_bool HF.out.symm, below_drewN HB.out _⟩
 · have e3 : decide ((L : Int) < 3) = true := by simp; omega
   have HF := Lib.hid (show out = false from HO.out.trans (by simp [h3]))
   go_enter Tryz.func67, Tryz.ntmps67
   go_wp2_with fail
   go_quiet (fail)
   go_wp2_with fail
   go_ret
   exact ⟨ret_bool HF.out.symm, below_drewN HB.out _⟩
theorem rcount_any (k : Int) (hka : hasA k = true) (hk : IntsIn w.heap.size w Ak ks) (hkc : ks.length ≤ ck) : Calls Tryz.prog 67 #[.agg #[.int .i64 x, .int .i64 k, .int .i64 n, .slice Aa na ca, .slice Ak ks.length ck, .slice Al nb cb]] w fun e w' => e = .returned (.bool (countB x k n na ks nb)) ∧ Below w.heap.size w w' := by
 have h : k = 1 ∨ k = 6 ∨ k = 2 ∨ k = 3 ∨ k = 4 ∨ k = 9 ∨ k = 8 ∨ k = 10 := by simp [hasA] at hka; omega
 rcases h with rfl | rfl | rfl | rfl | rfl | rfl | rfl | rfl
 · exact rcount_atom x n Aa Ak Al na ca ck nb cb ks w
 · exact rcount_app x n Aa Ak Al na ca ck nb cb ks w
 · exact rcount_prim x n Aa Ak Al na ca ck nb cb ks w
 · exact rcount_block x n Aa Ak Al na ca ck nb cb ks w
 · exact rcount_field x n Aa Ak Al na ca ck nb cb ks w
 · exact rcount_close x n Aa Ak Al na ca ck nb cb ks w
 · exact rcount_switch x n Aa Ak Al na ca ck nb cb ks w hk.1
 · exact rcount_group x n Aa Ak Al na ca ck nb cb ks w hk hkc
end
end Go.Proofs.YtnobggabjpcbfaaGreat
