/-
 2 texts of this seat in one: D4 D5.
-/
import Derived.Test.YtnobggabjpcbfaaGreatQI6
set_option maxRecDepth 100000
set_option maxHeartbeats 16000000
set_option linter.unusedVariables false
set_option linter.unusedSimpArgs false
namespace Go.Proofs.YtnobggabjpcbfaaGreat
open Go.RowKit
theorem nat_eq_bool (a b : Nat) : ((a : Int) == (b : Int)) = (a == b) := by rw [Bool.eq_iff_iff]; simp; omega
section
variable (x n : Int) (Aa Ak Al : Option Addr) (na ca ck nb cb : Nat) (ks : List Int) (w : World)
theorem count_app : Calls Tryz.prog 78 #[.agg #[.int .i64 x, .int .i64 6, .int .i64 n, .slice Aa na ca, .slice Ak ks.length ck, .slice Al nb cb]] w fun e w' => e = .returned (.bool (countB x 6 n na ks nb)) ∧ Below w.heap.size w w' := by
 obtain ⟨W0, hW0⟩ : ∃ W0, w.alloc (.cells #[.int .i64 x, .int .i64 6, .int .i64 n, .slice Aa na ca, .slice Ak ks.length ck, .slice Al nb cb] 62) = W0 := ⟨_, rfl⟩
 have hb0 : Below w.heap.size w W0 := by rw [← hW0]; exact (Below.refl _ _).alloc (Nat.le_refl _) _
 have hs0 : w.heap.size < W0.heap.size := by rw [← hW0]; simp
 obtain ⟨W1, hW1⟩ : ∃ W1, W0.alloc (.cells #[.int .i64 6, .int .i64 n, .slice Aa na ca, .slice Ak ks.length ck, .slice Al nb cb] 60) = W1 := ⟨_, rfl⟩
 have hb1 : Below W0.heap.size W0 W1 := by rw [← hW1]; exact (Below.refl _ _).alloc (Nat.le_refl _) _
 have d0 : W0.cell? ⟨w.heap.size, 0, none⟩ = some (.int .i64 x) := by rw [← hW0, World.cell?_alloc_at _ _ _ _ rfl]; rfl
 have d1 : W0.cell? ⟨w.heap.size, 1, none⟩ = some (.int .i64 6) := by rw [← hW0, World.cell?_alloc_at _ _ _ _ rfl]; rfl
 have d2 : W0.cell? ⟨w.heap.size, 2, none⟩ = some (.int .i64 n) := by rw [← hW0, World.cell?_alloc_at _ _ _ _ rfl]; rfl
 have d3 : W0.cell? ⟨w.heap.size, 3, none⟩ = some (.slice Aa na ca) := by rw [← hW0, World.cell?_alloc_at _ _ _ _ rfl]; rfl
 have d4 : W0.cell? ⟨w.heap.size, 4, none⟩ = some (.slice Ak ks.length ck) := by rw [← hW0, World.cell?_alloc_at _ _ _ _ rfl]; rfl
 have d5 : W0.cell? ⟨w.heap.size, 5, none⟩ = some (.slice Al nb cb) := by rw [← hW0, World.cell?_alloc_at _ _ _ _ rfl]; rfl
 have hR : RhsAt W0 W1 W0.heap.size 6 n Aa Ak Al na ca ks.length ck nb cb := by rw [← hW1]; exact RhsAt.new _ _ _ _ _ _ _ _ _ _ _ _
 obtain ⟨c0, c1, c2, c3, c4, cl⟩ := hR
 have g0 : W1.cell? ⟨w.heap.size, 0, none⟩ = some (.int .i64 x) := (hb1.cell (p := ⟨w.heap.size, 0, none⟩) hs0).trans d0
 have HB := Lib.hid (hb0.trans (hb1.mono hb0.size))
 clear hb0 hb1
 go_enter Tryz.func78, Tryz.ntmps78
 go_wp2_with (go_at_call 53; refine (within_any _ _ _ _).mono ?_; rintro en w' ⟨rfl, rfl⟩)
 go_ret
 exact ⟨ret_bool (by have := nat_eq_bool na 2; simpa [countB] using this), HB.out⟩
theorem count_block : Calls Tryz.prog 78 #[.agg #[.int .i64 x, .int .i64 3, .int .i64 n, .slice Aa na ca, .slice Ak ks.length ck, .slice Al nb cb]] w fun e w' => e = .returned (.bool (countB x 3 n na ks nb)) ∧ Below w.heap.size w w' := by
 obtain ⟨W0, hW0⟩ : ∃ W0, w.alloc (.cells #[.int .i64 x, .int .i64 3, .int .i64 n, .slice Aa na ca, .slice Ak ks.length ck, .slice Al nb cb] 62) = W0 := ⟨_, rfl⟩
 have hb0 : Below w.heap.size w W0 := by rw [← hW0]; exact (Below.refl _ _).alloc (Nat.le_refl _) _
 have hs0 : w.heap.size < W0.heap.size := by rw [← hW0]; simp
 obtain ⟨W1, hW1⟩ : ∃ W1, W0.alloc (.cells #[.int .i64 3, .int .i64 n, .slice Aa na ca, .slice Ak ks.length ck, .slice Al nb cb] 60) = W1 := ⟨_, rfl⟩
 have hb1 : Below W0.heap.size W0 W1 := by rw [← hW1]; exact (Below.refl _ _).alloc (Nat.le_refl _) _
 have d0 : W0.cell? ⟨w.heap.size, 0, none⟩ = some (.int .i64 x) := by rw [← hW0, World.cell?_alloc_at _ _ _ _ rfl]; rfl
 have d1 : W0.cell? ⟨w.heap.size, 1, none⟩ = some (.int .i64 3) := by rw [← hW0, World.cell?_alloc_at _ _ _ _ rfl]; rfl
 have d2 : W0.cell? ⟨w.heap.size, 2, none⟩ = some (.int .i64 n) := by rw [← hW0, World.cell?_alloc_at _ _ _ _ rfl]; rfl
 have d3 : W0.cell? ⟨w.heap.size, 3, none⟩ = some (.slice Aa na ca) := by rw [← hW0, World.cell?_alloc_at _ _ _ _ rfl]; rfl
 have d4 : W0.cell? ⟨w.heap.size, 4, none⟩ = some (.slice Ak ks.length ck) := by rw [← hW0, World.cell?_alloc_at _ _ _ _ rfl]; rfl
 have d5 : W0.cell? ⟨w.heap.size, 5, none⟩ = some (.slice Al nb cb) := by rw [← hW0, World.cell?_alloc_at _ _ _ _ rfl]; rfl
 have hR : RhsAt W0 W1 W0.heap.size 3 n Aa Ak Al na ca ks.length ck nb cb := by rw [← hW1]; exact RhsAt.new _ _ _ _ _ _ _ _ _ _ _ _
 obtain ⟨c0, c1, c2, c3, c4, cl⟩ := hR
 have g0 : W1.cell? ⟨w.heap.size, 0, none⟩ = some (.int .i64 x) := (hb1.cell (p := ⟨w.heap.size, 0, none⟩) hs0).trans d0
 have HB := Lib.hid (hb0.trans (hb1.mono hb0.size))
 clear hb0 hb1
 go_enter Tryz.func78, Tryz.ntmps78
 go_wp2_with (go_at_call 53; refine (within_any _ _ _ _).mono ?_; rintro en w' ⟨rfl, rfl⟩)
 go_ret
 exact ⟨ret_bool (by simp [countB]), HB.out⟩
theorem count_close : Calls Tryz.prog 78 #[.agg #[.int .i64 x, .int .i64 9, .int .i64 n, .slice Aa na ca, .slice Ak ks.length ck, .slice Al nb cb]] w fun e w' => e = .returned (.bool (countB x 9 n na ks nb)) ∧ Below w.heap.size w w' := by
 obtain ⟨W0, hW0⟩ : ∃ W0, w.alloc (.cells #[.int .i64 x, .int .i64 9, .int .i64 n, .slice Aa na ca, .slice Ak ks.length ck, .slice Al nb cb] 62) = W0 := ⟨_, rfl⟩
 have hb0 : Below w.heap.size w W0 := by rw [← hW0]; exact (Below.refl _ _).alloc (Nat.le_refl _) _
 have hs0 : w.heap.size < W0.heap.size := by rw [← hW0]; simp
 obtain ⟨W1, hW1⟩ : ∃ W1, W0.alloc (.cells #[.int .i64 9, .int .i64 n, .slice Aa na ca, .slice Ak ks.length ck, .slice Al nb cb] 60) = W1 := ⟨_, rfl⟩
 have hb1 : Below W0.heap.size W0 W1 := by rw [← hW1]; exact (Below.refl _ _).alloc (Nat.le_refl _) _
 have d0 : W0.cell? ⟨w.heap.size, 0, none⟩ = some (.int .i64 x) := by rw [← hW0, World.cell?_alloc_at _ _ _ _ rfl]; rfl
 have d1 : W0.cell? ⟨w.heap.size, 1, none⟩ = some (.int .i64 9) := by rw [← hW0, World.cell?_alloc_at _ _ _ _ rfl]; rfl
 have d2 : W0.cell? ⟨w.heap.size, 2, none⟩ = some (.int .i64 n) := by rw [← hW0, World.cell?_alloc_at _ _ _ _ rfl]; rfl
 have d3 : W0.cell? ⟨w.heap.size, 3, none⟩ = some (.slice Aa na ca) := by rw [← hW0, World.cell?_alloc_at _ _ _ _ rfl]; rfl
 have d4 : W0.cell? ⟨w.heap.size, 4, none⟩ = some (.slice Ak ks.length ck) := by rw [← hW0, World.cell?_alloc_at _ _ _ _ rfl]; rfl
 have d5 : W0.cell? ⟨w.heap.size, 5, none⟩ = some (.slice Al nb cb) := by rw [← hW0, World.cell?_alloc_at _ _ _ _ rfl]; rfl
 have hR : RhsAt W0 W1 W0.heap.size 9 n Aa Ak Al na ca ks.length ck nb cb := by rw [← hW1]; exact RhsAt.new _ _ _ _ _ _ _ _ _ _ _ _
 obtain ⟨c0, c1, c2, c3, c4, cl⟩ := hR
 have g0 : W1.cell? ⟨w.heap.size, 0, none⟩ = some (.int .i64 x) := (hb1.cell (p := ⟨w.heap.size, 0, none⟩) hs0).trans d0
 have HB := Lib.hid (hb0.trans (hb1.mono hb0.size))
 clear hb0 hb1
 go_enter Tryz.func78, Tryz.ntmps78
 go_wp2_with (go_at_call 53; refine (within_any _ _ _ _).mono ?_; rintro en w' ⟨rfl, rfl⟩)
 go_ret
 exact ⟨ret_bool (by simp [countB]), HB.out⟩
theorem count_prim : Calls Tryz.prog 78 #[.agg #[.int .i64 x, .int .i64 2, .int .i64 n, .slice Aa na ca, .slice Ak ks.length ck, .slice Al nb cb]] w fun e w' => e = .returned (.bool (countB x 2 n na ks nb)) ∧ Below w.heap.size w w' := by
 obtain ⟨W0, hW0⟩ : ∃ W0, w.alloc (.cells #[.int .i64 x, .int .i64 2, .int .i64 n, .slice Aa na ca, .slice Ak ks.length ck, .slice Al nb cb] 62) = W0 := ⟨_, rfl⟩
 have hb0 : Below w.heap.size w W0 := by rw [← hW0]; exact (Below.refl _ _).alloc (Nat.le_refl _) _
 have hs0 : w.heap.size < W0.heap.size := by rw [← hW0]; simp
 obtain ⟨W1, hW1⟩ : ∃ W1, W0.alloc (.cells #[.int .i64 2, .int .i64 n, .slice Aa na ca, .slice Ak ks.length ck, .slice Al nb cb] 60) = W1 := ⟨_, rfl⟩
 have hb1 : Below W0.heap.size W0 W1 := by rw [← hW1]; exact (Below.refl _ _).alloc (Nat.le_refl _) _
 have d0 : W0.cell? ⟨w.heap.size, 0, none⟩ = some (.int .i64 x) := by rw [← hW0, World.cell?_alloc_at _ _ _ _ rfl]; rfl
 have d1 : W0.cell? ⟨w.heap.size, 1, none⟩ = some (.int .i64 2) := by rw [← hW0, World.cell?_alloc_at _ _ _ _ rfl]; rfl
 have d2 : W0.cell? ⟨w.heap.size, 2, none⟩ = some (.int .i64 n) := by rw [← hW0, World.cell?_alloc_at _ _ _ _ rfl]; rfl
 have d3 : W0.cell? ⟨w.heap.size, 3, none⟩ = some (.slice Aa na ca) := by rw [← hW0, World.cell?_alloc_at _ _ _ _ rfl]; rfl
 have d4 : W0.cell? ⟨w.heap.size, 4, none⟩ = some (.slice Ak ks.length ck) := by rw [← hW0, World.cell?_alloc_at _ _ _ _ rfl]; rfl
 have d5 : W0.cell? ⟨w.heap.size, 5, none⟩ = some (.slice Al nb cb) := by rw [← hW0, World.cell?_alloc_at _ _ _ _ rfl]; rfl
 have hR : RhsAt W0 W1 W0.heap.size 2 n Aa Ak Al na ca ks.length ck nb cb := by rw [← hW1]; exact RhsAt.new _ _ _ _ _ _ _ _ _ _ _ _
 obtain ⟨c0, c1, c2, c3, c4, cl⟩ := hR
 have g0 : W1.cell? ⟨w.heap.size, 0, none⟩ = some (.int .i64 x) := (hb1.cell (p := ⟨w.heap.size, 0, none⟩) hs0).trans d0
 have HB := Lib.hid (hb0.trans (hb1.mono hb0.size))
 clear hb0 hb1
 by_cases h9 : n ≤ 9
 · have ht : twoF n = true := by simp [twoF, h9]
   have HT := Lib.hid ht
   clear ht
   go_enter Tryz.func78, Tryz.ntmps78
   go_wp2_with (go_at_call 53; refine (within_any _ _ _ _).mono ?_; rintro en w' ⟨rfl, rfl⟩)
   go_ret
   exact ⟨ret_bool (by have := nat_eq_bool na 2; have h := HT.out; simpa [countB, h] using this), HB.out⟩
 · have h9' : ¬ n ≤ 9 := h9
   cases h12 : (n == 12)
   · cases h16 : (n == 16)
     · have ht : twoF n = false := by simp [twoF, h9]; simp at h12 h16; exact ⟨h12, h16⟩
       have HT := Lib.hid ht
       clear ht
       go_enter Tryz.func78, Tryz.ntmps78
       go_wp2_with (go_at_call 53; refine (within_any _ _ _ _).mono ?_; rintro en w' ⟨rfl, rfl⟩)
       go_ret
       exact ⟨ret_bool (by have := nat_eq_bool na 1; have h := HT.out; simpa [countB, h] using this), HB.out⟩
     · have ht : twoF n = true := by simp [twoF]; simp at h16; omega
       have HT := Lib.hid ht
       clear ht
       go_enter Tryz.func78, Tryz.ntmps78
       go_wp2_with (go_at_call 53; refine (within_any _ _ _ _).mono ?_; rintro en w' ⟨rfl, rfl⟩)
       go_ret
       exact ⟨ret_bool (by have := nat_eq_bool na 2; have h := HT.out; simpa [countB, h] using this), HB.out⟩
   · have ht : twoF n = true := by simp [twoF]; simp at h12; omega
     have HT := Lib.hid ht
     clear ht
     go_enter Tryz.func78, Tryz.ntmps78
     go_wp2_with (go_at_call 53; refine (within_any _ _ _ _).mono ?_; rintro en w' ⟨rfl, rfl⟩)
     go_ret
     exact ⟨ret_bool (by have := nat_eq_bool na 2; have h := HT.out; simpa [countB, h] using this), HB.out⟩
theorem count_switch (hl : ks.length * 8 ≤ 140737488351232) : Calls Tryz.prog 78 #[.agg #[.int .i64 x, .int .i64 8, .int .i64 n, .slice Aa na ca, .slice Ak ks.length ck, .slice Al nb cb]] w fun e w' => e = .returned (.bool (countB x 8 n na ks nb)) ∧ Below w.heap.size w w' := by
 obtain ⟨W0, hW0⟩ : ∃ W0, w.alloc (.cells #[.int .i64 x, .int .i64 8, .int .i64 n, .slice Aa na ca, .slice Ak ks.length ck, .slice Al nb cb] 62) = W0 := ⟨_, rfl⟩
 have hb0 : Below w.heap.size w W0 := by rw [← hW0]; exact (Below.refl _ _).alloc (Nat.le_refl _) _
 have hs0 : w.heap.size < W0.heap.size := by rw [← hW0]; simp
 obtain ⟨W1, hW1⟩ : ∃ W1, W0.alloc (.cells #[.int .i64 8, .int .i64 n, .slice Aa na ca, .slice Ak ks.length ck, .slice Al nb cb] 60) = W1 := ⟨_, rfl⟩
 have hb1 : Below W0.heap.size W0 W1 := by rw [← hW1]; exact (Below.refl _ _).alloc (Nat.le_refl _) _
 have d0 : W0.cell? ⟨w.heap.size, 0, none⟩ = some (.int .i64 x) := by rw [← hW0, World.cell?_alloc_at _ _ _ _ rfl]; rfl
 have d1 : W0.cell? ⟨w.heap.size, 1, none⟩ = some (.int .i64 8) := by rw [← hW0, World.cell?_alloc_at _ _ _ _ rfl]; rfl
 have d2 : W0.cell? ⟨w.heap.size, 2, none⟩ = some (.int .i64 n) := by rw [← hW0, World.cell?_alloc_at _ _ _ _ rfl]; rfl
 have d3 : W0.cell? ⟨w.heap.size, 3, none⟩ = some (.slice Aa na ca) := by rw [← hW0, World.cell?_alloc_at _ _ _ _ rfl]; rfl
 have d4 : W0.cell? ⟨w.heap.size, 4, none⟩ = some (.slice Ak ks.length ck) := by rw [← hW0, World.cell?_alloc_at _ _ _ _ rfl]; rfl
 have d5 : W0.cell? ⟨w.heap.size, 5, none⟩ = some (.slice Al nb cb) := by rw [← hW0, World.cell?_alloc_at _ _ _ _ rfl]; rfl
 have hR : RhsAt W0 W1 W0.heap.size 8 n Aa Ak Al na ca ks.length ck nb cb := by rw [← hW1]; exact RhsAt.new _ _ _ _ _ _ _ _ _ _ _ _
 obtain ⟨c0, c1, c2, c3, c4, cl⟩ := hR
 have g0 : W1.cell? ⟨w.heap.size, 0, none⟩ = some (.int .i64 x) := (hb1.cell (p := ⟨w.heap.size, 0, none⟩) hs0).trans d0
 have HB := Lib.hid (hb0.trans (hb1.mono hb0.size))
 clear hb0 hb1
 have hw : IntKind.i64.wrap ((ks.length : Int) + 1) = (ks.length : Int) + 1 := by rw [IntKind.wrap_i64]; omega
 cases h1 : ((na : Int) == 1)
 · have HT := Lib.hid (show countB x 8 n na ks nb = false from by rw [show ((na : Int) == 1) = (na == 1) from nat_eq_bool na 1] at h1; simp [countB, h1])
   go_enter Tryz.func78, Tryz.ntmps78
   go_wp2_with (go_at_call 53; refine (within_any _ _ _ _).mono ?_; rintro en w' ⟨rfl, rfl⟩)
   go_ret
   exact ⟨ret_bool HT.out.symm, HB.out⟩
 · have HT := Lib.hid (show countB x 8 n na ks nb = ((nb : Int) == (ks.length : Int) + 1) from by rw [show ((na : Int) == 1) = (na == 1) from nat_eq_bool na 1] at h1; have := nat_eq_bool nb (ks.length + 1); simp [countB, h1]; simpa using this.symm)
   go_enter Tryz.func78, Tryz.ntmps78
   go_wp2_with (go_at_call 53; refine (within_any _ _ _ _).mono ?_; rintro en w' ⟨rfl, rfl⟩)
   go_ret
   exact ⟨ret_bool HT.out.symm, HB.out⟩
theorem count_other (k : Int) (hk : k ≠ 6 ∧ k ≠ 2 ∧ k ≠ 3 ∧ k ≠ 9 ∧ k ≠ 8 ∧ k ≠ 10) : Calls Tryz.prog 78 #[.agg #[.int .i64 x, .int .i64 k, .int .i64 n, .slice Aa na ca, .slice Ak ks.length ck, .slice Al nb cb]] w fun e w' => e = .returned (.bool (countB x k n na ks nb)) ∧ Below w.heap.size w w' := by
 have e2 : (k == 2) = false := by simp; omega
 have e3 : (k == 3) = false := by simp; omega
 have e6 : (k == 6) = false := by simp; omega
 have e8 : (k == 8) = false := by simp; omega
 have e9 : (k == 9) = false := by simp; omega
 have e10 : (k == 10) = false := by simp; omega
 have HT := Lib.hid (show countB x k n na ks nb = (na == 1) from by obtain ⟨h6, h2, h3, h9, h8, h10⟩ := hk; simp [countB, h6, h2, h3, h9, h8, h10])
 clear hk
 obtain ⟨W0, hW0⟩ : ∃ W0, w.alloc (.cells #[.int .i64 x, .int .i64 k, .int .i64 n, .slice Aa na ca, .slice Ak ks.length ck, .slice Al nb cb] 62) = W0 := ⟨_, rfl⟩
 have hb0 : Below w.heap.size w W0 := by rw [← hW0]; exact (Below.refl _ _).alloc (Nat.le_refl _) _
 have hs0 : w.heap.size < W0.heap.size := by rw [← hW0]; simp
 obtain ⟨W1, hW1⟩ : ∃ W1, W0.alloc (.cells #[.int .i64 k, .int .i64 n, .slice Aa na ca, .slice Ak ks.length ck, .slice Al nb cb] 60) = W1 := ⟨_, rfl⟩
 have hb1 : Below W0.heap.size W0 W1 := by rw [← hW1]; exact (Below.refl _ _).alloc (Nat.le_refl _) _
 have d0 : W0.cell? ⟨w.heap.size, 0, none⟩ = some (.int .i64 x) := by rw [← hW0, World.cell?_alloc_at _ _ _ _ rfl]; rfl
 have d1 : W0.cell? ⟨w.heap.size, 1, none⟩ = some (.int .i64 k) := by rw [← hW0, World.cell?_alloc_at _ _ _ _ rfl]; rfl
 have d2 : W0.cell? ⟨w.heap.size, 2, none⟩ = some (.int .i64 n) := by rw [← hW0, World.cell?_alloc_at _ _ _ _ rfl]; rfl
 have d3 : W0.cell? ⟨w.heap.size, 3, none⟩ = some (.slice Aa na ca) := by rw [← hW0, World.cell?_alloc_at _ _ _ _ rfl]; rfl
 have d4 : W0.cell? ⟨w.heap.size, 4, none⟩ = some (.slice Ak ks.length ck) := by rw [← hW0, World.cell?_alloc_at _ _ _ _ rfl]; rfl
 have d5 : W0.cell? ⟨w.heap.size, 5, none⟩ = some (.slice Al nb cb) := by rw [← hW0, World.cell?_alloc_at _ _ _ _ rfl]; rfl
 have hR : RhsAt W0 W1 W0.heap.size k n Aa Ak Al na ca ks.length ck nb cb := by rw [← hW1]; exact RhsAt.new _ _ _ _ _ _ _ _ _ _ _ _
 obtain ⟨c0, c1, c2, c3, c4, cl⟩ := hR
 have g0 : W1.cell? ⟨w.heap.size, 0, none⟩ = some (.int .i64 x) := (hb1.cell (p := ⟨w.heap.size, 0, none⟩) hs0).trans d0
 have HB := Lib.hid (hb0.trans (hb1.mono hb0.size))
 clear hb0 hb1
 go_enter Tryz.func78, Tryz.ntmps78
 go_wp2_with (go_at_call 53; refine (within_any _ _ _ _).mono ?_; rintro en w' ⟨rfl, rfl⟩)
 go_ret
 exact ⟨ret_bool (by have := nat_eq_bool na 1; rw [HT.out]; simpa using this), HB.out⟩
theorem count_group (hk : IntsIn w.heap.size w Ak ks) (hkc : ks.length ≤ ck) : Calls Tryz.prog 78 #[.agg #[.int .i64 x, .int .i64 10, .int .i64 n, .slice Aa na ca, .slice Ak ks.length ck, .slice Al nb cb]] w fun e w' => e = .returned (.bool (countB x 10 n na ks nb)) ∧ Below w.heap.size w w' := by
 have HK := Lib.hid (fun (V : World) (hV : Below w.heap.size w V) => (show 0 < ks.length → ∃ b o, Ak = some ⟨b, o, none⟩ ∧ ∀ j, j < ks.length → V.cell? ⟨b, o + j, none⟩ = some (.int .i64 (nth ks j)) from fun h0 => by
  obtain ⟨b, o, h1, h2, h3⟩ := hk.at_ h0
  exact ⟨b, o, h1, fun j hj => (hV.cell (p := ⟨_, _, none⟩) h2).trans (h3 j hj)⟩))
 have h64 := hk.1
 clear hk
 obtain ⟨W0, hW0⟩ : ∃ W0, w.alloc (.cells #[.int .i64 x, .int .i64 10, .int .i64 n, .slice Aa na ca, .slice Ak ks.length ck, .slice Al nb cb] 62) = W0 := ⟨_, rfl⟩
 have hb0 : Below w.heap.size w W0 := by rw [← hW0]; exact (Below.refl _ _).alloc (Nat.le_refl _) _
 have hs0 : w.heap.size < W0.heap.size := by rw [← hW0]; simp
 obtain ⟨W1, hW1⟩ : ∃ W1, W0.alloc (.cells #[.int .i64 10, .int .i64 n, .slice Aa na ca, .slice Ak ks.length ck, .slice Al nb cb] 60) = W1 := ⟨_, rfl⟩
 have hb1 : Below W0.heap.size W0 W1 := by rw [← hW1]; exact (Below.refl _ _).alloc (Nat.le_refl _) _
 have d0 : W0.cell? ⟨w.heap.size, 0, none⟩ = some (.int .i64 x) := by rw [← hW0, World.cell?_alloc_at _ _ _ _ rfl]; rfl
 have d1 : W0.cell? ⟨w.heap.size, 1, none⟩ = some (.int .i64 10) := by rw [← hW0, World.cell?_alloc_at _ _ _ _ rfl]; rfl
 have d2 : W0.cell? ⟨w.heap.size, 2, none⟩ = some (.int .i64 n) := by rw [← hW0, World.cell?_alloc_at _ _ _ _ rfl]; rfl
 have d3 : W0.cell? ⟨w.heap.size, 3, none⟩ = some (.slice Aa na ca) := by rw [← hW0, World.cell?_alloc_at _ _ _ _ rfl]; rfl
 have d4 : W0.cell? ⟨w.heap.size, 4, none⟩ = some (.slice Ak ks.length ck) := by rw [← hW0, World.cell?_alloc_at _ _ _ _ rfl]; rfl
 have d5 : W0.cell? ⟨w.heap.size, 5, none⟩ = some (.slice Al nb cb) := by rw [← hW0, World.cell?_alloc_at _ _ _ _ rfl]; rfl
 have hR : RhsAt W0 W1 W0.heap.size 10 n Aa Ak Al na ca ks.length ck nb cb := by rw [← hW1]; exact RhsAt.new _ _ _ _ _ _ _ _ _ _ _ _
 obtain ⟨c0, c1, c2, c3, c4, cl⟩ := hR
 have g0 : W1.cell? ⟨w.heap.size, 0, none⟩ = some (.int .i64 x) := (hb1.cell (p := ⟨w.heap.size, 0, none⟩) hs0).trans d0
 have HB := Lib.hid (hb0.trans (hb1.mono hb0.size))
 clear hb0 hb1
 obtain ⟨out, hout⟩ : ∃ o, countB x 10 n na ks nb = o := ⟨_, rfl⟩
 rw [hout]
 have HO := Lib.hid (show out = ((groupH ks).all (fun h => inB h 0 255) && decide (3 ≤ ks.length) && ks.length % 3 == 0 && sumL (groupH ks) == (na : Int) && nth ks 0 == x) from hout.symm.trans (by simp [countB]))
 clear hout
 have HKK := Lib.hid (HK.out W1 HB.out)
 clear HK
 have HG := Lib.hid (groupH_get' ks)
 have hl := groupH_len ks
 obtain ⟨L, hL⟩ : ∃ L, ks.length = L := ⟨_, rfl⟩
 rw [hL] at hW0 hW1 d4 c3 hkc HO HKK HG hl h64 ⊢
 clear hL
 have HL := Lib.hid hl
 go_enter Tryz.func78, Tryz.ntmps78
 go_wp2_with fail
 go_loopw [6, 7] (fun hv iv wr => ∃ j : Nat, 3 * j ≤ L ∧ iv = .int .i64 (3 * (j : Int) + 2) ∧ hv = .int .i64 (sumL ((groupH ks).take j)) ∧ W1 = wr ∧ Hid (((groupH ks).take j).all (fun h => inB h 0 255) = true) ∧ 0 ≤ sumL ((groupH ks).take j) ∧ sumL ((groupH ks).take j) ≤ 255 * (j : Int)) (fun _ iv _ => 3 * L + 9 - (intOf iv).toNat)
 case atStart => exact ⟨0, by omega, rfl, rfl, rfl, Lib.hid (by simp), by simp [sumL], by simp [sumL]⟩
 case round =>
  obtain ⟨j, hj, rfl, rfl, rfl, HA, hs1, hs2⟩ := hrel
  by_cases hlt : 3 * j + 2 < L
  · obtain ⟨b, o, rfl, hall⟩ := HKK.out (by omega)
    have qk := hall (3 * j + 2) hlt
    clear hall
    have e1 : (0 : Int) ≤ 3 * (j : Int) + 2 := by omega
    have e2 : 3 * (j : Int) + 2 < (L : Int) := by omega
    have e3 : (3 * (j : Int) + 2).toNat = 3 * j + 2 := by omega
    have e4 : IntKind.i64.wrap (3 * (j : Int) + 2 + 3) = 3 * (j : Int) + 2 + 3 := by rw [IntKind.wrap_i64]; omega
    have e5 : (L : Int) ≤ (ck : Int) := by omega
    have HGJ := Lib.hid (HG.out j hlt)
    cases hin : inB (nth ks (3 * j + 2)) 0 255
    · have HF := Lib.hid (show out = false from HO.out.trans (by rw [all_false HGJ.out hin]; rfl))
      go_wp2_with (go_at_call 53; refine (within_any _ _ _ _).mono ?_; rintro en w' ⟨rfl, rfl⟩)
      go_ret
      exact ⟨ret_bool HF.out.symm, HB.out⟩
    · have HA2 := Lib.hid (all_take_succ HGJ.out HA.out hin)
      have hrng := inB_iff.1 hin
      have hsum : sumL ((groupH ks).take (j + 1)) = sumL ((groupH ks).take j) + nth ks (3 * j + 2) := by
       rw [List.take_add_one, HGJ.out]
       exact sumL_append _ _
      have HSUM := Lib.hid hsum
      have e6 : IntKind.i64.wrap (sumL ((groupH ks).take j) + nth ks (3 * j + 2)) = sumL ((groupH ks).take j) + nth ks (3 * j + 2) := by rw [IntKind.wrap_i64]; omega
      clear hsum
      generalize hS : sumL ((groupH ks).take j) = S at *
      go_wp2_with (go_at_call 53; refine (within_any _ _ _ _).mono ?_; rintro en w' ⟨rfl, rfl⟩)
      go_roundw
      case rel => exact ⟨j + 1, by omega, by go_num, by rw [HSUM.out], (by first | rfl | trivial), HA2, by rw [HSUM.out]; omega, by rw [HSUM.out]; omega⟩
      case measure => simp [intOf]; omega
  · have e2 : ¬ 3 * (j : Int) + 2 < (L : Int) := by omega
    have hfin : (groupH ks).take j = groupH ks := List.take_of_length_le (by rw [HL.out]; omega)
    have HAA := HA.out
    rw [hfin] at HAA hs1 hs2 ⊢
    have HO2 := Lib.hid (show out = (decide (3 ≤ L) && L % 3 == 0 && sumL (groupH ks) == (na : Int) && nth ks 0 == x) from HO.out.trans (by rw [HAA]; simp))
    clear hfin HAA HA
    generalize sumL (groupH ks) = S at *
    by_cases h3 : 3 ≤ L
    · obtain ⟨b, o, rfl, hall⟩ := HKK.out (by omega)
      have qk := hall 0 (by omega)
      clear hall
      have e3 : (3 : Int) ≤ (L : Int) := by omega
      have e5 : (0 : Int) < (L : Int) := by omega
      have e6 : (L : Int) ≤ (ck : Int) := by omega
      have hm : (L : Int).tmod 3 = ((L % 3 : Nat) : Int) := by rw [Int.tmod_eq_emod_of_nonneg (by omega)]; omega
      simp only [Nat.add_zero] at qk
      have x1 : (((L % 3 : Nat) : Int) == 0) = (L % 3 == 0) := nat_eq_bool _ 0
      obtain ⟨md, hmd⟩ : ∃ md : Int, (L : Int).tmod 3 = md := ⟨_, rfl⟩
      have hmd2 : (md == 0) = (L % 3 == 0) := by rw [← hmd, hm]; exact x1
      have HO3 := Lib.hid (show out = ((md == 0) && S == (na : Int) && nth ks 0 == x) from HO2.out.trans (by rw [hmd2]; simp [h3]))
      clear hm x1 hmd2
      cases y1 : (md == 0)
      · go_wp2_with fail
        go_quiet (fail)
        go_wp2_with fail
        go_ret
        exact ⟨ret_bool (by rw [HO3.out, y1]; rfl), below_drewN HB.out _⟩
      · cases y2 : (S == (na : Int))
        · go_wp2_with fail
          go_quiet (fail)
          go_wp2_with fail
          go_ret
          exact ⟨ret_bool (by rw [HO3.out, y1, y2]; rfl), below_drewN HB.out _⟩
        · go_wp2_with fail
          go_quiet (fail)
          go_wp2_with fail
          go_ret
          exact ⟨ret_bool (by rw [HO3.out, y1, y2]; rfl), below_drewN HB.out _⟩
    · have e3 : decide ((3 : Int) ≤ (L : Int)) = false := by simp; omega
      have HF := Lib.hid (show out = false from HO2.out.trans (by simp [h3]))
      go_wp2_with fail
      go_quiet (fail)
      go_wp2_with fail
      go_ret
      exact ⟨ret_bool HF.out.symm, below_drewN HB.out _⟩
theorem count_any (k : Int) (hk : IntsIn w.heap.size w Ak ks) (hkc : ks.length ≤ ck) : Calls Tryz.prog 78 #[.agg #[.int .i64 x, .int .i64 k, .int .i64 n, .slice Aa na ca, .slice Ak ks.length ck, .slice Al nb cb]] w fun e w' => e = .returned (.bool (countB x k n na ks nb)) ∧ Below w.heap.size w w' := by
 by_cases h6 : k = 6
 · subst h6; exact count_app x n Aa Ak Al na ca ck nb cb ks w
 by_cases h2 : k = 2
 · subst h2; exact count_prim x n Aa Ak Al na ca ck nb cb ks w
 by_cases h3 : k = 3
 · subst h3; exact count_block x n Aa Ak Al na ca ck nb cb ks w
 by_cases h9 : k = 9
 · subst h9; exact count_close x n Aa Ak Al na ca ck nb cb ks w
 by_cases h8 : k = 8
 · subst h8; exact count_switch x n Aa Ak Al na ca ck nb cb ks w hk.1
 by_cases h10 : k = 10
 · subst h10; exact count_group x n Aa Ak Al na ca ck nb cb ks w hk hkc
 exact count_other x n Aa Ak Al na ca ck nb cb ks w k ⟨h6, h2, h3, h9, h8, h10⟩
end
end Go.Proofs.YtnobggabjpcbfaaGreat
namespace Go.Proofs.YtnobggabjpcbfaaGreat
open Go.RowKit
theorem index_num {W : World} {ats : List Atm} {Aa : Option Addr} {ca : Nat} (ha : AtomsIn W.heap.size W Aa ats) (hac : ats.length ≤ ca) (P : Atm → Bool) (hP : ∀ a ∈ ats, ∀ V : World, Below W.heap.size W V → Calls Tryz.prog 93 #[.agg #[.bool a.v, .int .i64 a.n]] V fun e w' => e = .returned (.bool (P a)) ∧ Below V.heap.size V w') :
 Calls Tryz.prog 81 #[.slice Aa ats.length ca, .func (.func 93) #[] #[]] W fun e w' => ∃ i : Int, e = .returned (.int .i64 i) ∧ decide (0 ≤ i) = ats.any P ∧ Below W.heap.size W w' := by
 have HA := Lib.hid (fun (j : Nat) (hj : j < ats.length) (V : World) (hV : Below W.heap.size W V) => (show ∃ b o, Aa = some ⟨b, o, none⟩ ∧ V.cell? ⟨b, o + j * 2, none⟩ = some (.bool ats[j].v) ∧ V.cell? ⟨b, o + j * 2 + 1, none⟩ = some (.int .i64 ats[j].n) from by
  rcases ha.2 with rfl | ⟨b, o, rfl, hlt, hc⟩
  · simp at hj
  · have := hc j hj
    simp only [List.getElem?_eq_getElem hj, Option.getD_some] at this
    exact ⟨b, o, rfl, (hV.cell (p := ⟨_, _, none⟩) hlt).trans this.1, (hV.cell (p := ⟨_, _, none⟩) hlt).trans this.2⟩))
 have HP := Lib.hid (fun (j : Nat) (hj : j < ats.length) => hP ats[j] (List.getElem_mem hj))
 have h16 := ha.1
 clear ha hP
 obtain ⟨L, hL⟩ : ∃ L, ats.length = L := ⟨_, rfl⟩
 have HL := Lib.hid hL
 rw [hL] at h16 hac ⊢
 clear hL
 go_enter Tryz.func81, Tryz.ntmps81
 go_wp2_with fail
 go_loopw [8] (fun iv wr => ∃ j : Nat, j ≤ L ∧ iv = .int .i64 (j : Int) ∧ Hid (Below W.heap.size W wr) ∧ Hid (∀ i, i < j → ∀ x, ats[i]? = some x → P x = false)) (fun iv _ => L + 1 - (intOf iv).toNat)
 case atStart => exact ⟨0, by omega, rfl, Lib.hid (Below.refl _ _), Lib.hid (fun i hi => by omega)⟩
 case round =>
  obtain ⟨j, hj, rfl, HW, HN⟩ := hrel
  by_cases hlt : j < L
  · have hja : j < ats.length := by rw [HL.out]; exact hlt
    obtain ⟨b, o, rfl, c0, c1⟩ := HA.out j hja wr HW.out
    have HC := Lib.hid (HP.out j hja wr HW.out)
    have HG := Lib.hid (List.getElem?_eq_getElem hja)
    generalize ats[j] = at_ at *
    obtain ⟨av, an⟩ := at_
    have e1 : (0 : Int) ≤ (j : Int) := by omega
    have e2 : (j : Int) < (L : Int) := by omega
    have e4 : IntKind.i64.wrap ((j : Int) + 1) = (j : Int) + 1 := by rw [IntKind.wrap_i64]; omega
    have e5 : (L : Int) ≤ (ca : Int) := by omega
    cases hp : P ⟨av, an⟩
    · rw [hp] at HC
      have HN2 := Lib.hid (show ∀ i, i < j + 1 → ∀ x, ats[i]? = some x → P x = false from fun i hi x hx => by
       by_cases hij : i = j
       · subst hij
         rw [HG.out] at hx
         cases hx
         exact hp
       · exact HN.out i (by omega) x hx)
      clear hp
      go_wp2_with fail
      refine HC.out.mono ?_
      rintro en w' ⟨rfl, hb⟩
      have HW2 := Lib.hid (HW.out.trans (hb.mono HW.out.size))
      clear hb
      go_wp2_with fail
      go_roundw
      case rel => exact ⟨j + 1, by omega, by go_num, HW2, HN2⟩
      case measure => simp [intOf]; omega
    · rw [hp] at HC
      have HT := Lib.hid (show ats.any P = true from List.any_eq_true.2 ⟨_, List.mem_of_getElem? HG.out, hp⟩)
      clear hp
      go_wp2_with fail
      refine HC.out.mono ?_
      rintro en w' ⟨rfl, hb⟩
      have HW2 := Lib.hid (HW.out.trans (hb.mono HW.out.size))
      clear hb
      go_wp2_with fail
      go_ret
      exact ⟨(j : Int), rfl, by rw [HT.out]; simp, HW2.out⟩
  · have e2 : ¬ (j : Int) < (L : Int) := by omega
    have HF := Lib.hid (show ats.any P = false from any_false_take HN.out (by rw [HL.out]; omega))
    go_wp2_with fail
    go_ret
    exact ⟨-1, rfl, by rw [HF.out]; decide, HW.out⟩
theorem contains_num {W : World} {ats : List Atm} {Aa : Option Addr} {ca : Nat} (ha : AtomsIn W.heap.size W Aa ats) (hac : ats.length ≤ ca) (P : Atm → Bool) (hP : ∀ a ∈ ats, ∀ V : World, Below W.heap.size W V → Calls Tryz.prog 93 #[.agg #[.bool a.v, .int .i64 a.n]] V fun e w' => e = .returned (.bool (P a)) ∧ Below V.heap.size V w') :
 Calls Tryz.prog 56 #[.slice Aa ats.length ca, .func (.func 93) #[] #[]] W fun e w' => e = .returned (.bool (ats.any P)) ∧ Below W.heap.size W w' := by
 have HC := Lib.hid (index_num ha hac P hP)
 clear ha hP
 go_enter Tryz.func56, Tryz.ntmps56
 go_wp2_with fail
 refine HC.out.mono ?_
 rintro en w' ⟨i, rfl, hi, hb⟩
 have HI := Lib.hid hi
 have HB := Lib.hid hb
 clear hi hb
 go_wp2_with fail
 go_ret
 exact ⟨ret_bool HI.out, HB.out⟩
theorem index_ask {vb : Nat} {W : World} {ats : List Atm} {Aa : Option Addr} {ca : Nat} (ha : AtomsIn W.heap.size W Aa ats) (hac : ats.length ≤ ca) (P : Atm → Bool) (hP : ∀ a ∈ ats, ∀ V : World, Below W.heap.size W V → Calls Tryz.prog 57 #[.agg #[.bool a.v, .int .i64 a.n], .pointer (some ⟨vb, 0, none⟩)] V fun e w' => e = .returned (.bool (P a)) ∧ Below V.heap.size V w') :
 Calls Tryz.prog 81 #[.slice Aa ats.length ca, .func (.func 57) #[] #[.pointer (some ⟨vb, 0, none⟩)]] W fun e w' => ∃ i : Int, e = .returned (.int .i64 i) ∧ decide (0 ≤ i) = ats.any P ∧ Below W.heap.size W w' := by
 have HA := Lib.hid (fun (j : Nat) (hj : j < ats.length) (V : World) (hV : Below W.heap.size W V) => (show ∃ b o, Aa = some ⟨b, o, none⟩ ∧ V.cell? ⟨b, o + j * 2, none⟩ = some (.bool ats[j].v) ∧ V.cell? ⟨b, o + j * 2 + 1, none⟩ = some (.int .i64 ats[j].n) from by
  rcases ha.2 with rfl | ⟨b, o, rfl, hlt, hc⟩
  · simp at hj
  · have := hc j hj
    simp only [List.getElem?_eq_getElem hj, Option.getD_some] at this
    exact ⟨b, o, rfl, (hV.cell (p := ⟨_, _, none⟩) hlt).trans this.1, (hV.cell (p := ⟨_, _, none⟩) hlt).trans this.2⟩))
 have HP := Lib.hid (fun (j : Nat) (hj : j < ats.length) => hP ats[j] (List.getElem_mem hj))
 have h16 := ha.1
 clear ha hP
 obtain ⟨L, hL⟩ : ∃ L, ats.length = L := ⟨_, rfl⟩
 have HL := Lib.hid hL
 rw [hL] at h16 hac ⊢
 clear hL
 go_enter Tryz.func81, Tryz.ntmps81
 go_wp2_with fail
 go_loopw [8] (fun iv wr => ∃ j : Nat, j ≤ L ∧ iv = .int .i64 (j : Int) ∧ Hid (Below W.heap.size W wr) ∧ Hid (∀ i, i < j → ∀ x, ats[i]? = some x → P x = false)) (fun iv _ => L + 1 - (intOf iv).toNat)
 case atStart => exact ⟨0, by omega, rfl, Lib.hid (Below.refl _ _), Lib.hid (fun i hi => by omega)⟩
 case round =>
  obtain ⟨j, hj, rfl, HW, HN⟩ := hrel
  by_cases hlt : j < L
  · have hja : j < ats.length := by rw [HL.out]; exact hlt
    obtain ⟨b, o, rfl, c0, c1⟩ := HA.out j hja wr HW.out
    have HC := Lib.hid (HP.out j hja wr HW.out)
    have HG := Lib.hid (List.getElem?_eq_getElem hja)
    generalize ats[j] = at_ at *
    obtain ⟨av, an⟩ := at_
    have e1 : (0 : Int) ≤ (j : Int) := by omega
    have e2 : (j : Int) < (L : Int) := by omega
    have e4 : IntKind.i64.wrap ((j : Int) + 1) = (j : Int) + 1 := by rw [IntKind.wrap_i64]; omega
    have e5 : (L : Int) ≤ (ca : Int) := by omega
    cases hp : P ⟨av, an⟩
    · rw [hp] at HC
      have HN2 := Lib.hid (show ∀ i, i < j + 1 → ∀ x, ats[i]? = some x → P x = false from fun i hi x hx => by
       by_cases hij : i = j
       · subst hij
         rw [HG.out] at hx
         cases hx
         exact hp
       · exact HN.out i (by omega) x hx)
      clear hp
      go_wp2_with fail
      refine HC.out.mono ?_
      rintro en w' ⟨rfl, hb⟩
      have HW2 := Lib.hid (HW.out.trans (hb.mono HW.out.size))
      clear hb
      go_wp2_with fail
      go_roundw
      case rel => exact ⟨j + 1, by omega, by go_num, HW2, HN2⟩
      case measure => simp [intOf]; omega
    · rw [hp] at HC
      have HT := Lib.hid (show ats.any P = true from List.any_eq_true.2 ⟨_, List.mem_of_getElem? HG.out, hp⟩)
      clear hp
      go_wp2_with fail
      refine HC.out.mono ?_
      rintro en w' ⟨rfl, hb⟩
      have HW2 := Lib.hid (HW.out.trans (hb.mono HW.out.size))
      clear hb
      go_wp2_with fail
      go_ret
      exact ⟨(j : Int), rfl, by rw [HT.out]; simp, HW2.out⟩
  · have e2 : ¬ (j : Int) < (L : Int) := by omega
    have HF := Lib.hid (show ats.any P = false from any_false_take HN.out (by rw [HL.out]; omega))
    go_wp2_with fail
    go_ret
    exact ⟨-1, rfl, by rw [HF.out]; decide, HW.out⟩
theorem contains_ask {vb : Nat} {W : World} {ats : List Atm} {Aa : Option Addr} {ca : Nat} (ha : AtomsIn W.heap.size W Aa ats) (hac : ats.length ≤ ca) (P : Atm → Bool) (hP : ∀ a ∈ ats, ∀ V : World, Below W.heap.size W V → Calls Tryz.prog 57 #[.agg #[.bool a.v, .int .i64 a.n], .pointer (some ⟨vb, 0, none⟩)] V fun e w' => e = .returned (.bool (P a)) ∧ Below V.heap.size V w') :
 Calls Tryz.prog 56 #[.slice Aa ats.length ca, .func (.func 57) #[] #[.pointer (some ⟨vb, 0, none⟩)]] W fun e w' => e = .returned (.bool (ats.any P)) ∧ Below W.heap.size W w' := by
 have HC := Lib.hid (index_ask ha hac P hP)
 clear ha hP
 go_enter Tryz.func56, Tryz.ntmps56
 go_wp2_with fail
 refine HC.out.mono ?_
 rintro en w' ⟨i, rfl, hi, hb⟩
 have HI := Lib.hid hi
 have HB := Lib.hid hb
 clear hi hb
 go_wp2_with fail
 go_ret
 exact ⟨ret_bool HI.out, HB.out⟩
end Go.Proofs.YtnobggabjpcbfaaGreat
