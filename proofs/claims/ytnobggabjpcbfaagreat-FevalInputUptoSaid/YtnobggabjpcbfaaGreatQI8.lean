/-
 1 texts of this seat in one: D6.
-/
import Derived.Test.YtnobggabjpcbfaaGreatQI7
set_option maxRecDepth 100000
set_option maxHeartbeats 16000000
set_option linter.unusedVariables false
set_option linter.unusedSimpArgs false
namespace Go.Proofs.YtnobggabjpcbfaaGreat
open Go.RowKit
theorem all_of_any (ats : List Atm) : (!(ats.any fun a => !atomB a)) = ats.all atomB := by
 rw [Bool.eq_iff_iff]; simp
section
variable {cb_ mb nf : Nat} (hnf : nf ≤ 1000000) (x n : Int) {Aa Ak Al : Option Addr} {ca ck nb cb : Nat} {ats : List Atm} {ks : List Int} {w : World} (hc : w.heap[cb_]? = some (.cells #[.int .i64 (nf : Int), .map (some mb)] 85 (0, 0))) (ha : AtomsIn w.heap.size w Aa ats) (hac : ats.length ≤ ca) (hk : IntsIn w.heap.size w Ak ks) (hkc : ks.length ≤ ck)
include hnf hc ha hac hk hkc in
theorem cnum_block : Calls Tryz.prog 77 #[.pointer (some ⟨cb_, 0, none⟩), .agg #[.int .i64 x, .int .i64 3, .int .i64 n, .slice Aa ats.length ca, .slice Ak ks.length ck, .slice Al nb cb]] w fun e w' => e = .returned (.bool (numberB nf x 3 n ats ks)) ∧ Below w.heap.size w w' := by
 obtain ⟨W0, hW0⟩ : ∃ W0, w.alloc (.cells #[.int .i64 x, .int .i64 3, .int .i64 n, .slice Aa ats.length ca, .slice Ak ks.length ck, .slice Al nb cb] 62) = W0 := ⟨_, rfl⟩
 have hb0 : Below w.heap.size w W0 := by rw [← hW0]; exact (Below.refl _ _).alloc (Nat.le_refl _) _
 have hs0 : w.heap.size < W0.heap.size := by rw [← hW0]; simp
 obtain ⟨W1, hW1⟩ : ∃ W1, W0.alloc (.cells #[.int .i64 3, .int .i64 n, .slice Aa ats.length ca, .slice Ak ks.length ck, .slice Al nb cb] 60) = W1 := ⟨_, rfl⟩
 have hb1 : Below W0.heap.size W0 W1 := by rw [← hW1]; exact (Below.refl _ _).alloc (Nat.le_refl _) _
 have d0 : W0.cell? ⟨w.heap.size, 0, none⟩ = some (.int .i64 x) := by rw [← hW0, World.cell?_alloc_at _ _ _ _ rfl]; rfl
 have d1 : W0.cell? ⟨w.heap.size, 1, none⟩ = some (.int .i64 3) := by rw [← hW0, World.cell?_alloc_at _ _ _ _ rfl]; rfl
 have d2 : W0.cell? ⟨w.heap.size, 2, none⟩ = some (.int .i64 n) := by rw [← hW0, World.cell?_alloc_at _ _ _ _ rfl]; rfl
 have d3 : W0.cell? ⟨w.heap.size, 3, none⟩ = some (.slice Aa ats.length ca) := by rw [← hW0, World.cell?_alloc_at _ _ _ _ rfl]; rfl
 have d4 : W0.cell? ⟨w.heap.size, 4, none⟩ = some (.slice Ak ks.length ck) := by rw [← hW0, World.cell?_alloc_at _ _ _ _ rfl]; rfl
 have d5 : W0.cell? ⟨w.heap.size, 5, none⟩ = some (.slice Al nb cb) := by rw [← hW0, World.cell?_alloc_at _ _ _ _ rfl]; rfl
 have hR : RhsAt W0 W1 W0.heap.size 3 n Aa Ak Al ats.length ca ks.length ck nb cb := by rw [← hW1]; exact RhsAt.new _ _ _ _ _ _ _ _ _ _ _ _
 have HR := Lib.hid (fun (V : World) (hV : Below W1.heap.size W1 V) => hR.behind hV)
 obtain ⟨c0, c1, c2, c3, c4, cl⟩ := hR
 have g0 : W1.cell? ⟨w.heap.size, 0, none⟩ = some (.int .i64 x) := (hb1.cell (p := ⟨w.heap.size, 0, none⟩) hs0).trans d0
 have hB := hb0.trans (hb1.mono hb0.size)
 have cc : w.cell? ⟨cb_, 0, none⟩ = some (.int .i64 (nf : Int)) := by simp [World.cell?, hc]
 have cn : W1.cell? ⟨cb_, 0, none⟩ = some (.int .i64 (nf : Int)) := cell_behind hB cc
 have hw1 : IntKind.i64.wrap ((nf : Int) - 1) = (nf : Int) - 1 := by rw [IntKind.wrap_i64]; omega
 have HCON := Lib.hid (fun (V : World) (hV : Below w.heap.size w V) => (contains_num (W := V) (ats := ats) (Aa := Aa) (ca := ca) ((ha.below hV).mono hV.size) hac (fun a => !atomB a) (fun a _ V' hV' => number1_any a.v a.n V')).mono (R' := fun e V' => e = .returned (.bool (ats.any fun a => !atomB a)) ∧ Below w.heap.size w V') fun e V' h => ⟨h.1, hV.trans (h.2.mono hV.size)⟩)
 have HGR := Lib.hid (fun (V : World) (hV : Below w.heap.size w V) => cgroup_any 3 n Aa Ak Al ats.length ca ck nb cb ks V ((hk.below hV).mono hV.size) hkc)
 have HB := Lib.hid hB
 clear hb0 hb1 hB cc hc ha hk
 obtain ⟨out, hout⟩ : ∃ o, numberB nf x 3 n ats ks = o := ⟨_, rfl⟩
 rw [hout]
 have HO := Lib.hid (show out = (varB x && inB n 0 1023 && ats.all atomB) from hout.symm.trans (by simp [numberB]))
 clear hout
 cases h1 : varB x
 · have HF := Lib.hid (show out = false from HO.out.trans (by rw [h1]; rfl))
   go_enter Tryz.func77, Tryz.ntmps77
   go_wp2_with (first | (go_at_call 34; refine (variable_any _ _).mono ?_; rintro en w' ⟨rfl, rfl⟩) | (go_at_call 53; refine (within_any _ _ _ _).mono ?_; rintro en w' ⟨rfl, rfl⟩))
   go_ret
   exact ⟨ret_bool HF.out.symm, HB.out⟩
 · cases h2 : inB n 0 1023
   · have HF := Lib.hid (show out = false from HO.out.trans (by rw [h1, h2]; rfl))
     go_enter Tryz.func77, Tryz.ntmps77
     go_wp2_with (first | (go_at_call 34; refine (variable_any _ _).mono ?_; rintro en w' ⟨rfl, rfl⟩) | (go_at_call 53; refine (within_any _ _ _ _).mono ?_; rintro en w' ⟨rfl, rfl⟩))
     go_ret
     exact ⟨ret_bool HF.out.symm, HB.out⟩
   · have HT := Lib.hid (show out = ats.all atomB from HO.out.trans (by rw [h1, h2]; simp))
     go_enter Tryz.func77, Tryz.ntmps77
     go_wp2_with (first | (go_at_call 34; refine (variable_any _ _).mono ?_; rintro en w' ⟨rfl, rfl⟩) | (go_at_call 53; refine (within_any _ _ _ _).mono ?_; rintro en w' ⟨rfl, rfl⟩))
     refine (HCON.out _ (HB.out)).mono ?_
     rintro en w' ⟨rfl, hb⟩
     have HB2 := Lib.hid hb
     clear hb
     go_wp2_with fail
     go_ret
     exact ⟨ret_bool (by rw [HT.out]; exact all_of_any ats), HB2.out⟩
include hnf hc ha hac hk hkc in
theorem cnum_field : Calls Tryz.prog 77 #[.pointer (some ⟨cb_, 0, none⟩), .agg #[.int .i64 x, .int .i64 4, .int .i64 n, .slice Aa ats.length ca, .slice Ak ks.length ck, .slice Al nb cb]] w fun e w' => e = .returned (.bool (numberB nf x 4 n ats ks)) ∧ Below w.heap.size w w' := by
 obtain ⟨W0, hW0⟩ : ∃ W0, w.alloc (.cells #[.int .i64 x, .int .i64 4, .int .i64 n, .slice Aa ats.length ca, .slice Ak ks.length ck, .slice Al nb cb] 62) = W0 := ⟨_, rfl⟩
 have hb0 : Below w.heap.size w W0 := by rw [← hW0]; exact (Below.refl _ _).alloc (Nat.le_refl _) _
 have hs0 : w.heap.size < W0.heap.size := by rw [← hW0]; simp
 obtain ⟨W1, hW1⟩ : ∃ W1, W0.alloc (.cells #[.int .i64 4, .int .i64 n, .slice Aa ats.length ca, .slice Ak ks.length ck, .slice Al nb cb] 60) = W1 := ⟨_, rfl⟩
 have hb1 : Below W0.heap.size W0 W1 := by rw [← hW1]; exact (Below.refl _ _).alloc (Nat.le_refl _) _
 have d0 : W0.cell? ⟨w.heap.size, 0, none⟩ = some (.int .i64 x) := by rw [← hW0, World.cell?_alloc_at _ _ _ _ rfl]; rfl
 have d1 : W0.cell? ⟨w.heap.size, 1, none⟩ = some (.int .i64 4) := by rw [← hW0, World.cell?_alloc_at _ _ _ _ rfl]; rfl
 have d2 : W0.cell? ⟨w.heap.size, 2, none⟩ = some (.int .i64 n) := by rw [← hW0, World.cell?_alloc_at _ _ _ _ rfl]; rfl
 have d3 : W0.cell? ⟨w.heap.size, 3, none⟩ = some (.slice Aa ats.length ca) := by rw [← hW0, World.cell?_alloc_at _ _ _ _ rfl]; rfl
 have d4 : W0.cell? ⟨w.heap.size, 4, none⟩ = some (.slice Ak ks.length ck) := by rw [← hW0, World.cell?_alloc_at _ _ _ _ rfl]; rfl
 have d5 : W0.cell? ⟨w.heap.size, 5, none⟩ = some (.slice Al nb cb) := by rw [← hW0, World.cell?_alloc_at _ _ _ _ rfl]; rfl
 have hR : RhsAt W0 W1 W0.heap.size 4 n Aa Ak Al ats.length ca ks.length ck nb cb := by rw [← hW1]; exact RhsAt.new _ _ _ _ _ _ _ _ _ _ _ _
 have HR := Lib.hid (fun (V : World) (hV : Below W1.heap.size W1 V) => hR.behind hV)
 obtain ⟨c0, c1, c2, c3, c4, cl⟩ := hR
 have g0 : W1.cell? ⟨w.heap.size, 0, none⟩ = some (.int .i64 x) := (hb1.cell (p := ⟨w.heap.size, 0, none⟩) hs0).trans d0
 have hB := hb0.trans (hb1.mono hb0.size)
 have cc : w.cell? ⟨cb_, 0, none⟩ = some (.int .i64 (nf : Int)) := by simp [World.cell?, hc]
 have cn : W1.cell? ⟨cb_, 0, none⟩ = some (.int .i64 (nf : Int)) := cell_behind hB cc
 have hw1 : IntKind.i64.wrap ((nf : Int) - 1) = (nf : Int) - 1 := by rw [IntKind.wrap_i64]; omega
 have HCON := Lib.hid (fun (V : World) (hV : Below w.heap.size w V) => (contains_num (W := V) (ats := ats) (Aa := Aa) (ca := ca) ((ha.below hV).mono hV.size) hac (fun a => !atomB a) (fun a _ V' hV' => number1_any a.v a.n V')).mono (R' := fun e V' => e = .returned (.bool (ats.any fun a => !atomB a)) ∧ Below w.heap.size w V') fun e V' h => ⟨h.1, hV.trans (h.2.mono hV.size)⟩)
 have HGR := Lib.hid (fun (V : World) (hV : Below w.heap.size w V) => cgroup_any 4 n Aa Ak Al ats.length ca ck nb cb ks V ((hk.below hV).mono hV.size) hkc)
 have HB := Lib.hid hB
 clear hb0 hb1 hB cc hc ha hk
 obtain ⟨out, hout⟩ : ∃ o, numberB nf x 4 n ats ks = o := ⟨_, rfl⟩
 rw [hout]
 have HO := Lib.hid (show out = (varB x && inB n 0 255 && ats.all atomB) from hout.symm.trans (by simp [numberB]))
 clear hout
 cases h1 : varB x
 · have HF := Lib.hid (show out = false from HO.out.trans (by rw [h1]; rfl))
   go_enter Tryz.func77, Tryz.ntmps77
   go_wp2_with (first | (go_at_call 34; refine (variable_any _ _).mono ?_; rintro en w' ⟨rfl, rfl⟩) | (go_at_call 53; refine (within_any _ _ _ _).mono ?_; rintro en w' ⟨rfl, rfl⟩))
   go_ret
   exact ⟨ret_bool HF.out.symm, HB.out⟩
 · cases h2 : inB n 0 255
   · have HF := Lib.hid (show out = false from HO.out.trans (by rw [h1, h2]; rfl))
     go_enter Tryz.func77, Tryz.ntmps77
     go_wp2_with (first | (go_at_call 34; refine (variable_any _ _).mono ?_; rintro en w' ⟨rfl, rfl⟩) | (go_at_call 53; refine (within_any _ _ _ _).mono ?_; rintro en w' ⟨rfl, rfl⟩))
     go_ret
     exact ⟨ret_bool HF.out.symm, HB.out⟩
   · have HT := Lib.hid (show out = ats.all atomB from HO.out.trans (by rw [h1, h2]; simp))
     go_enter Tryz.func77, Tryz.ntmps77
     go_wp2_with (first | (go_at_call 34; refine (variable_any _ _).mono ?_; rintro en w' ⟨rfl, rfl⟩) | (go_at_call 53; refine (within_any _ _ _ _).mono ?_; rintro en w' ⟨rfl, rfl⟩))
     refine (HCON.out _ (HB.out)).mono ?_
     rintro en w' ⟨rfl, hb⟩
     have HB2 := Lib.hid hb
     clear hb
     go_wp2_with fail
     go_ret
     exact ⟨ret_bool (by rw [HT.out]; exact all_of_any ats), HB2.out⟩
include hnf hc ha hac hk hkc in
theorem cnum_close : Calls Tryz.prog 77 #[.pointer (some ⟨cb_, 0, none⟩), .agg #[.int .i64 x, .int .i64 9, .int .i64 n, .slice Aa ats.length ca, .slice Ak ks.length ck, .slice Al nb cb]] w fun e w' => e = .returned (.bool (numberB nf x 9 n ats ks)) ∧ Below w.heap.size w w' := by
 obtain ⟨W0, hW0⟩ : ∃ W0, w.alloc (.cells #[.int .i64 x, .int .i64 9, .int .i64 n, .slice Aa ats.length ca, .slice Ak ks.length ck, .slice Al nb cb] 62) = W0 := ⟨_, rfl⟩
 have hb0 : Below w.heap.size w W0 := by rw [← hW0]; exact (Below.refl _ _).alloc (Nat.le_refl _) _
 have hs0 : w.heap.size < W0.heap.size := by rw [← hW0]; simp
 obtain ⟨W1, hW1⟩ : ∃ W1, W0.alloc (.cells #[.int .i64 9, .int .i64 n, .slice Aa ats.length ca, .slice Ak ks.length ck, .slice Al nb cb] 60) = W1 := ⟨_, rfl⟩
 have hb1 : Below W0.heap.size W0 W1 := by rw [← hW1]; exact (Below.refl _ _).alloc (Nat.le_refl _) _
 have d0 : W0.cell? ⟨w.heap.size, 0, none⟩ = some (.int .i64 x) := by rw [← hW0, World.cell?_alloc_at _ _ _ _ rfl]; rfl
 have d1 : W0.cell? ⟨w.heap.size, 1, none⟩ = some (.int .i64 9) := by rw [← hW0, World.cell?_alloc_at _ _ _ _ rfl]; rfl
 have d2 : W0.cell? ⟨w.heap.size, 2, none⟩ = some (.int .i64 n) := by rw [← hW0, World.cell?_alloc_at _ _ _ _ rfl]; rfl
 have d3 : W0.cell? ⟨w.heap.size, 3, none⟩ = some (.slice Aa ats.length ca) := by rw [← hW0, World.cell?_alloc_at _ _ _ _ rfl]; rfl
 have d4 : W0.cell? ⟨w.heap.size, 4, none⟩ = some (.slice Ak ks.length ck) := by rw [← hW0, World.cell?_alloc_at _ _ _ _ rfl]; rfl
 have d5 : W0.cell? ⟨w.heap.size, 5, none⟩ = some (.slice Al nb cb) := by rw [← hW0, World.cell?_alloc_at _ _ _ _ rfl]; rfl
 have hR : RhsAt W0 W1 W0.heap.size 9 n Aa Ak Al ats.length ca ks.length ck nb cb := by rw [← hW1]; exact RhsAt.new _ _ _ _ _ _ _ _ _ _ _ _
 have HR := Lib.hid (fun (V : World) (hV : Below W1.heap.size W1 V) => hR.behind hV)
 obtain ⟨c0, c1, c2, c3, c4, cl⟩ := hR
 have g0 : W1.cell? ⟨w.heap.size, 0, none⟩ = some (.int .i64 x) := (hb1.cell (p := ⟨w.heap.size, 0, none⟩) hs0).trans d0
 have hB := hb0.trans (hb1.mono hb0.size)
 have cc : w.cell? ⟨cb_, 0, none⟩ = some (.int .i64 (nf : Int)) := by simp [World.cell?, hc]
 have cn : W1.cell? ⟨cb_, 0, none⟩ = some (.int .i64 (nf : Int)) := cell_behind hB cc
 have hw1 : IntKind.i64.wrap ((nf : Int) - 1) = (nf : Int) - 1 := by rw [IntKind.wrap_i64]; omega
 have HCON := Lib.hid (fun (V : World) (hV : Below w.heap.size w V) => (contains_num (W := V) (ats := ats) (Aa := Aa) (ca := ca) ((ha.below hV).mono hV.size) hac (fun a => !atomB a) (fun a _ V' hV' => number1_any a.v a.n V')).mono (R' := fun e V' => e = .returned (.bool (ats.any fun a => !atomB a)) ∧ Below w.heap.size w V') fun e V' h => ⟨h.1, hV.trans (h.2.mono hV.size)⟩)
 have HGR := Lib.hid (fun (V : World) (hV : Below w.heap.size w V) => cgroup_any 9 n Aa Ak Al ats.length ca ck nb cb ks V ((hk.below hV).mono hV.size) hkc)
 have HB := Lib.hid hB
 clear hb0 hb1 hB cc hc ha hk
 obtain ⟨out, hout⟩ : ∃ o, numberB nf x 9 n ats ks = o := ⟨_, rfl⟩
 rw [hout]
 have HO := Lib.hid (show out = (varB x && inB n 0 ((nf : Int) - 1) && ats.all atomB) from hout.symm.trans (by simp [numberB]))
 clear hout
 cases h1 : varB x
 · have HF := Lib.hid (show out = false from HO.out.trans (by rw [h1]; rfl))
   go_enter Tryz.func77, Tryz.ntmps77
   go_wp2_with (first | (go_at_call 34; refine (variable_any _ _).mono ?_; rintro en w' ⟨rfl, rfl⟩) | (go_at_call 53; refine (within_any _ _ _ _).mono ?_; rintro en w' ⟨rfl, rfl⟩))
   go_quiet ((go_at_call 53; exact Calls.quiet_of_same (within_q _ _ _ _)))
   go_wp2_with (first | (go_at_call 34; refine (variable_any _ _).mono ?_; rintro en w' ⟨rfl, rfl⟩) | (go_at_call 53; refine (within_any _ _ _ _).mono ?_; rintro en w' ⟨rfl, rfl⟩))
   go_ret
   exact ⟨ret_bool HF.out.symm, below_drewN HB.out _⟩
 · cases h2 : inB n 0 ((nf : Int) - 1)
   · have HF := Lib.hid (show out = false from HO.out.trans (by rw [h1, h2]; rfl))
     go_enter Tryz.func77, Tryz.ntmps77
     go_wp2_with (first | (go_at_call 34; refine (variable_any _ _).mono ?_; rintro en w' ⟨rfl, rfl⟩) | (go_at_call 53; refine (within_any _ _ _ _).mono ?_; rintro en w' ⟨rfl, rfl⟩))
     go_quiet ((go_at_call 53; exact Calls.quiet_of_same (within_q _ _ _ _)))
     go_wp2_with (first | (go_at_call 34; refine (variable_any _ _).mono ?_; rintro en w' ⟨rfl, rfl⟩) | (go_at_call 53; refine (within_any _ _ _ _).mono ?_; rintro en w' ⟨rfl, rfl⟩))
     go_ret
     exact ⟨ret_bool HF.out.symm, below_drewN HB.out _⟩
   · have HT := Lib.hid (show out = ats.all atomB from HO.out.trans (by rw [h1, h2]; simp))
     go_enter Tryz.func77, Tryz.ntmps77
     go_wp2_with (first | (go_at_call 34; refine (variable_any _ _).mono ?_; rintro en w' ⟨rfl, rfl⟩) | (go_at_call 53; refine (within_any _ _ _ _).mono ?_; rintro en w' ⟨rfl, rfl⟩))
     go_quiet ((go_at_call 53; exact Calls.quiet_of_same (within_q _ _ _ _)))
     go_wp2_with (first | (go_at_call 34; refine (variable_any _ _).mono ?_; rintro en w' ⟨rfl, rfl⟩) | (go_at_call 53; refine (within_any _ _ _ _).mono ?_; rintro en w' ⟨rfl, rfl⟩))
     refine (HCON.out _ (below_drewN HB.out _)).mono ?_
     rintro en w' ⟨rfl, hb⟩
     have HB2 := Lib.hid hb
     clear hb
     go_wp2_with fail
     go_ret
     exact ⟨ret_bool (by rw [HT.out]; exact all_of_any ats), HB2.out⟩
include hnf hc ha hac hk hkc in
theorem cnum_other (k : Int) (hk0 : k ≠ 3 ∧ k ≠ 4 ∧ k ≠ 9 ∧ k ≠ 10) : Calls Tryz.prog 77 #[.pointer (some ⟨cb_, 0, none⟩), .agg #[.int .i64 x, .int .i64 k, .int .i64 n, .slice Aa ats.length ca, .slice Ak ks.length ck, .slice Al nb cb]] w fun e w' => e = .returned (.bool (numberB nf x k n ats ks)) ∧ Below w.heap.size w w' := by
 have e3 : (k == 3) = false := by simp; omega
 have e4 : (k == 4) = false := by simp; omega
 have e9 : (k == 9) = false := by simp; omega
 have e10 : (k == 10) = false := by simp; omega
 obtain ⟨W0, hW0⟩ : ∃ W0, w.alloc (.cells #[.int .i64 x, .int .i64 k, .int .i64 n, .slice Aa ats.length ca, .slice Ak ks.length ck, .slice Al nb cb] 62) = W0 := ⟨_, rfl⟩
 have hb0 : Below w.heap.size w W0 := by rw [← hW0]; exact (Below.refl _ _).alloc (Nat.le_refl _) _
 have hs0 : w.heap.size < W0.heap.size := by rw [← hW0]; simp
 obtain ⟨W1, hW1⟩ : ∃ W1, W0.alloc (.cells #[.int .i64 k, .int .i64 n, .slice Aa ats.length ca, .slice Ak ks.length ck, .slice Al nb cb] 60) = W1 := ⟨_, rfl⟩
 have hb1 : Below W0.heap.size W0 W1 := by rw [← hW1]; exact (Below.refl _ _).alloc (Nat.le_refl _) _
 have d0 : W0.cell? ⟨w.heap.size, 0, none⟩ = some (.int .i64 x) := by rw [← hW0, World.cell?_alloc_at _ _ _ _ rfl]; rfl
 have d1 : W0.cell? ⟨w.heap.size, 1, none⟩ = some (.int .i64 k) := by rw [← hW0, World.cell?_alloc_at _ _ _ _ rfl]; rfl
 have d2 : W0.cell? ⟨w.heap.size, 2, none⟩ = some (.int .i64 n) := by rw [← hW0, World.cell?_alloc_at _ _ _ _ rfl]; rfl
 have d3 : W0.cell? ⟨w.heap.size, 3, none⟩ = some (.slice Aa ats.length ca) := by rw [← hW0, World.cell?_alloc_at _ _ _ _ rfl]; rfl
 have d4 : W0.cell? ⟨w.heap.size, 4, none⟩ = some (.slice Ak ks.length ck) := by rw [← hW0, World.cell?_alloc_at _ _ _ _ rfl]; rfl
 have d5 : W0.cell? ⟨w.heap.size, 5, none⟩ = some (.slice Al nb cb) := by rw [← hW0, World.cell?_alloc_at _ _ _ _ rfl]; rfl
 have hR : RhsAt W0 W1 W0.heap.size k n Aa Ak Al ats.length ca ks.length ck nb cb := by rw [← hW1]; exact RhsAt.new _ _ _ _ _ _ _ _ _ _ _ _
 have HR := Lib.hid (fun (V : World) (hV : Below W1.heap.size W1 V) => hR.behind hV)
 obtain ⟨c0, c1, c2, c3, c4, cl⟩ := hR
 have g0 : W1.cell? ⟨w.heap.size, 0, none⟩ = some (.int .i64 x) := (hb1.cell (p := ⟨w.heap.size, 0, none⟩) hs0).trans d0
 have hB := hb0.trans (hb1.mono hb0.size)
 have cc : w.cell? ⟨cb_, 0, none⟩ = some (.int .i64 (nf : Int)) := by simp [World.cell?, hc]
 have cn : W1.cell? ⟨cb_, 0, none⟩ = some (.int .i64 (nf : Int)) := cell_behind hB cc
 have hw1 : IntKind.i64.wrap ((nf : Int) - 1) = (nf : Int) - 1 := by rw [IntKind.wrap_i64]; omega
 have HCON := Lib.hid (fun (V : World) (hV : Below w.heap.size w V) => (contains_num (W := V) (ats := ats) (Aa := Aa) (ca := ca) ((ha.below hV).mono hV.size) hac (fun a => !atomB a) (fun a _ V' hV' => number1_any a.v a.n V')).mono (R' := fun e V' => e = .returned (.bool (ats.any fun a => !atomB a)) ∧ Below w.heap.size w V') fun e V' h => ⟨h.1, hV.trans (h.2.mono hV.size)⟩)
 have HGR := Lib.hid (fun (V : World) (hV : Below w.heap.size w V) => cgroup_any k n Aa Ak Al ats.length ca ck nb cb ks V ((hk.below hV).mono hV.size) hkc)
 have HB := Lib.hid hB
 clear hb0 hb1 hB cc hc ha hk
 obtain ⟨out, hout⟩ : ∃ o, numberB nf x k n ats ks = o := ⟨_, rfl⟩
 rw [hout]
 have HO := Lib.hid (show out = (varB x && ats.all atomB) from hout.symm.trans (by obtain ⟨h3, h4, h9, h10⟩ := hk0; have h10' : (k != 10) = true := (by simpa using h10); simp [numberB, h3, h4, h9, h10']))
 clear hout hk0
 cases h1 : varB x
 · have HF := Lib.hid (show out = false from HO.out.trans (by rw [h1]; rfl))
   go_enter Tryz.func77, Tryz.ntmps77
   go_wp2_with (first | (go_at_call 34; refine (variable_any _ _).mono ?_; rintro en w' ⟨rfl, rfl⟩) | (go_at_call 53; refine (within_any _ _ _ _).mono ?_; rintro en w' ⟨rfl, rfl⟩))
   go_ret
   exact ⟨ret_bool HF.out.symm, HB.out⟩
 · have HT := Lib.hid (show out = ats.all atomB from HO.out.trans (by rw [h1]; simp))
   go_enter Tryz.func77, Tryz.ntmps77
   go_wp2_with (first | (go_at_call 34; refine (variable_any _ _).mono ?_; rintro en w' ⟨rfl, rfl⟩) | (go_at_call 53; refine (within_any _ _ _ _).mono ?_; rintro en w' ⟨rfl, rfl⟩))
   refine (HCON.out _ (HB.out)).mono ?_
   rintro en w' ⟨rfl, hb⟩
   have HB2 := Lib.hid hb
   clear hb
   go_wp2_with fail
   go_ret
   exact ⟨ret_bool (by rw [HT.out]; exact all_of_any ats), HB2.out⟩
include hnf hc ha hac hk hkc in
theorem cnum_group : Calls Tryz.prog 77 #[.pointer (some ⟨cb_, 0, none⟩), .agg #[.int .i64 x, .int .i64 10, .int .i64 n, .slice Aa ats.length ca, .slice Ak ks.length ck, .slice Al nb cb]] w fun e w' => e = .returned (.bool (numberB nf x 10 n ats ks)) ∧ Below w.heap.size w w' := by
 obtain ⟨W0, hW0⟩ : ∃ W0, w.alloc (.cells #[.int .i64 x, .int .i64 10, .int .i64 n, .slice Aa ats.length ca, .slice Ak ks.length ck, .slice Al nb cb] 62) = W0 := ⟨_, rfl⟩
 have hb0 : Below w.heap.size w W0 := by rw [← hW0]; exact (Below.refl _ _).alloc (Nat.le_refl _) _
 have hs0 : w.heap.size < W0.heap.size := by rw [← hW0]; simp
 obtain ⟨W1, hW1⟩ : ∃ W1, W0.alloc (.cells #[.int .i64 10, .int .i64 n, .slice Aa ats.length ca, .slice Ak ks.length ck, .slice Al nb cb] 60) = W1 := ⟨_, rfl⟩
 have hb1 : Below W0.heap.size W0 W1 := by rw [← hW1]; exact (Below.refl _ _).alloc (Nat.le_refl _) _
 have d0 : W0.cell? ⟨w.heap.size, 0, none⟩ = some (.int .i64 x) := by rw [← hW0, World.cell?_alloc_at _ _ _ _ rfl]; rfl
 have d1 : W0.cell? ⟨w.heap.size, 1, none⟩ = some (.int .i64 10) := by rw [← hW0, World.cell?_alloc_at _ _ _ _ rfl]; rfl
 have d2 : W0.cell? ⟨w.heap.size, 2, none⟩ = some (.int .i64 n) := by rw [← hW0, World.cell?_alloc_at _ _ _ _ rfl]; rfl
 have d3 : W0.cell? ⟨w.heap.size, 3, none⟩ = some (.slice Aa ats.length ca) := by rw [← hW0, World.cell?_alloc_at _ _ _ _ rfl]; rfl
 have d4 : W0.cell? ⟨w.heap.size, 4, none⟩ = some (.slice Ak ks.length ck) := by rw [← hW0, World.cell?_alloc_at _ _ _ _ rfl]; rfl
 have d5 : W0.cell? ⟨w.heap.size, 5, none⟩ = some (.slice Al nb cb) := by rw [← hW0, World.cell?_alloc_at _ _ _ _ rfl]; rfl
 have hR : RhsAt W0 W1 W0.heap.size 10 n Aa Ak Al ats.length ca ks.length ck nb cb := by rw [← hW1]; exact RhsAt.new _ _ _ _ _ _ _ _ _ _ _ _
 have HR := Lib.hid (fun (V : World) (hV : Below W1.heap.size W1 V) => hR.behind hV)
 obtain ⟨c0, c1, c2, c3, c4, cl⟩ := hR
 have g0 : W1.cell? ⟨w.heap.size, 0, none⟩ = some (.int .i64 x) := (hb1.cell (p := ⟨w.heap.size, 0, none⟩) hs0).trans d0
 have hB := hb0.trans (hb1.mono hb0.size)
 have cc : w.cell? ⟨cb_, 0, none⟩ = some (.int .i64 (nf : Int)) := by simp [World.cell?, hc]
 have cn : W1.cell? ⟨cb_, 0, none⟩ = some (.int .i64 (nf : Int)) := cell_behind hB cc
 have hw1 : IntKind.i64.wrap ((nf : Int) - 1) = (nf : Int) - 1 := by rw [IntKind.wrap_i64]; omega
 have HCON := Lib.hid (fun (V : World) (hV : Below w.heap.size w V) => (contains_num (W := V) (ats := ats) (Aa := Aa) (ca := ca) ((ha.below hV).mono hV.size) hac (fun a => !atomB a) (fun a _ V' hV' => number1_any a.v a.n V')).mono (R' := fun e V' => e = .returned (.bool (ats.any fun a => !atomB a)) ∧ Below w.heap.size w V') fun e V' h => ⟨h.1, hV.trans (h.2.mono hV.size)⟩)
 have HGR := Lib.hid (fun (V : World) (hV : Below w.heap.size w V) => cgroup_any 10 n Aa Ak Al ats.length ca ck nb cb ks V ((hk.below hV).mono hV.size) hkc)
 have HB := Lib.hid hB
 clear hb0 hb1 hB cc hc ha hk
 obtain ⟨out, hout⟩ : ∃ o, numberB nf x 10 n ats ks = o := ⟨_, rfl⟩
 rw [hout]
 have HO := Lib.hid (show out = (varB x && (groupV ks).all varB && ats.all atomB) from hout.symm.trans (by simp [numberB]))
 clear hout
 have HVX := Lib.hid (rfl : varB x = varB x)
 go_enter Tryz.func77, Tryz.ntmps77
 go_wp2_with (first | (go_at_call 34; refine (variable_any _ _).mono ?_; rintro en w' ⟨rfl, rfl⟩) | (go_at_call 53; refine (within_any _ _ _ _).mono ?_; rintro en w' ⟨rfl, rfl⟩))
 refine (HGR.out _ HB.out).mono ?_
 rintro en w2 ⟨A, c, rfl, hi, hlc, hb2⟩
 have HR2 := Lib.hid (fun (V : World) (hV : Below w2.heap.size w2 V) => HR.out V (hb2.trans (hV.mono hb2.size)))
 have HW2 := Lib.hid (HB.out.trans (hb2.mono HB.out.size))
 have HK := Lib.hid (fun (j : Nat) (hj : j < (groupV ks).length) => (show ∃ b o, A = some ⟨b, o, none⟩ ∧ w2.cell? ⟨b, o + j, none⟩ = some (.int .i64 (nth (groupV ks) j)) from by
  obtain ⟨b, o, h1, h2, h3⟩ := hi.at_ (by omega)
  exact ⟨b, o, h1, h3 j hj⟩))
 have h64 := hi.1
 have k0 := (HR2.out w2 (Below.refl _ _)).c0
 have k2 := (HR2.out w2 (Below.refl _ _)).c2
 clear hi hb2 HR HGR
 obtain ⟨G, hG⟩ : ∃ G, groupV ks = G := ⟨_, rfl⟩
 rw [hG] at hlc HK h64 HO ⊢
 clear hG
 obtain ⟨M, hM⟩ : ∃ M, G.length = M := ⟨_, rfl⟩
 have HM := Lib.hid hM
 rw [hM] at hlc HK h64 ⊢
 clear hM
 go_wp2_with fail
 go_loopw [6, 20] (fun ov iv wr => ∃ j : Nat, j ≤ M ∧ iv = .int .i64 (j : Int) ∧ ov = .bool (varB x && (G.take j).all varB) ∧ w2 = wr) (fun _ iv _ => M + 1 - (intOf iv).toNat)
 case atStart => exact ⟨0, by omega, rfl, by simp, rfl⟩
 case round =>
  obtain ⟨j, hj, rfl, rfl, rfl⟩ := hrel
  by_cases hlt : j < M
  · obtain ⟨b, o, rfl, qk⟩ := HK.out j hlt
    have e1 : (0 : Int) ≤ (j : Int) := by omega
    have e2 : (j : Int) < (M : Int) := by omega
    have e4 : IntKind.i64.wrap ((j : Int) + 1) = (j : Int) + 1 := by rw [IntKind.wrap_i64]; omega
    have e5 : (M : Int) ≤ (c : Int) := by omega
    have hstep : (varB x && (G.take (j + 1)).all varB) = ((varB x && (G.take j).all varB) && varB (nth G j)) := by
     rw [take_snoc G (by rw [HM.out]; exact hlt)]
     simp only [List.all_append, List.all_cons, List.all_nil, Bool.and_true, Bool.and_assoc]
    have HSTEP := Lib.hid hstep
    clear hstep
    obtain ⟨q, hq⟩ : ∃ q, (varB x && (G.take j).all varB) = q := ⟨_, rfl⟩
    rw [hq] at HSTEP ⊢
    clear hq
    cases q
    all_goals
     go_wp2_with (first | (go_at_call 34; refine (variable_any _ _).mono ?_; rintro en w' ⟨rfl, rfl⟩) | (go_at_call 53; refine (within_any _ _ _ _).mono ?_; rintro en w' ⟨rfl, rfl⟩))
     go_roundw
     case rel => exact ⟨j + 1, by omega, by go_num, by rw [HSTEP.out]; simp, (by first | rfl | trivial)⟩
     case measure => simp [intOf]; omega
  · have e2 : ¬ (j : Int) < (M : Int) := by omega
    have hfin : G.take j = G := List.take_of_length_le (by rw [HM.out]; omega)
    rw [hfin] at *
    obtain ⟨q, hq⟩ : ∃ q, (varB x && G.all varB) = q := ⟨_, rfl⟩
    rw [hq] at HO ⊢
    clear hq hfin
    cases q
    · have HF := Lib.hid (show out = false from HO.out)
      go_wp2_with (first | (go_at_call 34; refine (variable_any _ _).mono ?_; rintro en w' ⟨rfl, rfl⟩) | (go_at_call 53; refine (within_any _ _ _ _).mono ?_; rintro en w' ⟨rfl, rfl⟩))
      go_ret
      exact ⟨ret_bool HF.out.symm, HW2.out⟩
    · have HT := Lib.hid (show out = ats.all atomB from HO.out.trans (by simp))
      go_wp2_with (first | (go_at_call 34; refine (variable_any _ _).mono ?_; rintro en w' ⟨rfl, rfl⟩) | (go_at_call 53; refine (within_any _ _ _ _).mono ?_; rintro en w' ⟨rfl, rfl⟩))
      refine (HCON.out _ (HW2.out)).mono ?_
      rintro en w' ⟨rfl, hb⟩
      have HB2 := Lib.hid hb
      clear hb
      go_wp2_with fail
      go_ret
      exact ⟨ret_bool (by rw [HT.out]; exact all_of_any ats), HB2.out⟩
include hnf hc ha hac hk hkc in
theorem cnumb_any (k : Int) : Calls Tryz.prog 77 #[.pointer (some ⟨cb_, 0, none⟩), .agg #[.int .i64 x, .int .i64 k, .int .i64 n, .slice Aa ats.length ca, .slice Ak ks.length ck, .slice Al nb cb]] w fun e w' => e = .returned (.bool (numberB nf x k n ats ks)) ∧ Below w.heap.size w w' := by
 by_cases h3 : k = 3
 · subst h3; exact cnum_block hnf x n hc ha hac hk hkc
 by_cases h4 : k = 4
 · subst h4; exact cnum_field hnf x n hc ha hac hk hkc
 by_cases h9 : k = 9
 · subst h9; exact cnum_close hnf x n hc ha hac hk hkc
 by_cases h10 : k = 10
 · subst h10; exact cnum_group hnf x n hc ha hac hk hkc
 exact cnum_other hnf x n hc ha hac hk hkc k ⟨h3, h4, h9, h10⟩
end
end Go.Proofs.YtnobggabjpcbfaaGreat
