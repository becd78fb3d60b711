/-
 4 texts of this seat in one: D7 D8 D9 D10.
-/
import Derived.Test.YtnobggabjpcbfaaGreatQI8
import Derived.WalkMore
set_option maxRecDepth 100000
set_option maxHeartbeats 16000000
set_option linter.unusedVariables false
set_option linter.unusedSimpArgs false
namespace Go.Proofs.YtnobggabjpcbfaaGreat
open Go.RowKit
section
variable {cb_ mb nf : Nat} (hnf : nf ≤ 1000000) (x k n : Int) {Aa Ak Al : Option Addr} {ca ck nb cb : Nat} {ats : List Atm} {ks : List Int} {w : World} (hc : w.heap[cb_]? = some (.cells #[.int .i64 (nf : Int), .map (some mb)] 85 (0, 0))) (ha : AtomsIn w.heap.size w Aa ats) (hac : ats.length ≤ ca) (hk : IntsIn w.heap.size w Ak ks) (hkc : ks.length ≤ ck)
include hnf hc ha hac hk hkc in
theorem cbind_any : Calls Tryz.prog 54 #[.pointer (some ⟨cb_, 0, none⟩), .agg #[.int .i64 x, .int .i64 k, .int .i64 n, .slice Aa ats.length ca, .slice Ak ks.length ck, .slice Al nb cb]] w fun e w' => e = .returned (.int .i64 (bindE nf x k n ats ks nb)) ∧ Below w.heap.size w w' := by
 obtain ⟨W0, hW0⟩ : ∃ W0, w.alloc (.cells #[.int .i64 x, .int .i64 k, .int .i64 n, .slice Aa ats.length ca, .slice Ak ks.length ck, .slice Al nb cb] 62) = W0 := ⟨_, rfl⟩
 have hb0 : Below w.heap.size w W0 := by rw [← hW0]; exact (Below.refl _ _).alloc (Nat.le_refl _) _
 have hs0 : w.heap.size < W0.heap.size := by rw [← hW0]; simp
 obtain ⟨W1, hW1⟩ : ∃ W1, W0.alloc (.cells #[.int .i64 k, .int .i64 n, .slice Aa ats.length ca, .slice Ak ks.length ck, .slice Al nb cb] 60) = W1 := ⟨_, rfl⟩
 have hb1 : Below W0.heap.size W0 W1 := by rw [← hW1]; exact (Below.refl _ _).alloc (Nat.le_refl _) _
 have d0 : W0.cell? ⟨w.heap.size, 0, none⟩ = some (.int .i64 x) := by rw [← hW0, World.cell?_alloc_at _ _ _ _ rfl]; rfl
 have d1 : W0.cell? ⟨w.heap.size, 1, none⟩ = some (.int .i64 k) := by rw [← hW0, World.cell?_alloc_at _ _ _ _ rfl]; rfl
 have d2 : W0.cell? ⟨w.heap.size, 2, none⟩ = some (.int .i64 n) := by rw [← hW0, World.cell?_alloc_at _ _ _ _ rfl]; rfl
 have d3 : W0.cell? ⟨w.heap.size, 3, none⟩ = some (.slice Aa ats.length ca) := by rw [← hW0, World.cell?_alloc_at _ _ _ _ rfl]; rfl
 have d4 : W0.cell? ⟨w.heap.size, 4, none⟩ = some (.slice Ak ks.length ck) := by rw [← hW0, World.cell?_alloc_at _ _ _ _ rfl]; rfl
 have d5 : W0.cell? ⟨w.heap.size, 5, none⟩ = some (.slice Al nb cb) := by rw [← hW0, World.cell?_alloc_at _ _ _ _ rfl]; rfl
 have hR : RhsAt W0 W1 W0.heap.size k n Aa Ak Al ats.length ca ks.length ck nb cb := by rw [← hW1]; exact RhsAt.new _ _ _ _ _ _ _ _ _ _ _ _
 have HR := Lib.hid (fun (V : World) (hV : Below W1.heap.size W1 V) => (show (V.cell? ⟨W0.heap.size, 0, none⟩ = some (.int .i64 k) ∧ V.cell? ⟨W0.heap.size, 1, none⟩ = some (.int .i64 n) ∧ V.cell? ⟨W0.heap.size, 2, none⟩ = some (.slice Aa ats.length ca) ∧ V.cell? ⟨W0.heap.size, 3, none⟩ = some (.slice Ak ks.length ck) ∧ V.cell? ⟨W0.heap.size, 4, none⟩ = some (.slice Al nb cb)) ∧
  (V.cell? ⟨w.heap.size, 0, none⟩ = some (.int .i64 x) ∧ V.cell? ⟨w.heap.size, 1, none⟩ = some (.int .i64 k) ∧ V.cell? ⟨w.heap.size, 2, none⟩ = some (.int .i64 n) ∧ V.cell? ⟨w.heap.size, 3, none⟩ = some (.slice Aa ats.length ca) ∧ V.cell? ⟨w.heap.size, 4, none⟩ = some (.slice Ak ks.length ck) ∧ V.cell? ⟨w.heap.size, 5, none⟩ = some (.slice Al nb cb)) from by
  have h := hR.behind hV
  have hb := hb1.trans (hV.mono hb1.size)
  exact ⟨⟨h.c0, h.c1, h.c2, h.c3, h.c4⟩, (hb.cell (p := ⟨w.heap.size, 0, none⟩) hs0).trans d0, (hb.cell (p := ⟨w.heap.size, 1, none⟩) hs0).trans d1, (hb.cell (p := ⟨w.heap.size, 2, none⟩) hs0).trans d2, (hb.cell (p := ⟨w.heap.size, 3, none⟩) hs0).trans d3, (hb.cell (p := ⟨w.heap.size, 4, none⟩) hs0).trans d4, (hb.cell (p := ⟨w.heap.size, 5, none⟩) hs0).trans d5⟩))
 have hB := hb0.trans (hb1.mono hb0.size)
 have hw2 : ∀ V : World, Below W1.heap.size W1 V → Below w.heap.size w V := fun V hV => hB.trans (hV.mono hB.size)
 have HW := Lib.hid hw2
 have hcV : ∀ V : World, Below w.heap.size w V → V.heap[cb_]? = some (.cells #[.int .i64 (nf : Int), .map (some mb)] 85 (0, 0)) := fun V hV => (hV.block cb_ (Array.getElem?_eq_some_iff.1 hc).1).trans hc
 have HBA := Lib.hid (fun (V : World) => bare_any k n Aa Ak Al ats.length ca ks.length ck nb cb V)
 have HNU := Lib.hid (fun (V : World) (hV : Below W1.heap.size W1 V) => cnumb_any hnf x n (Al := Al) (nb := nb) (cb := cb) (hcV V (hw2 V hV)) ((ha.below (hw2 V hV)).mono (hw2 V hV).size) hac ((hk.below (hw2 V hV)).mono (hw2 V hV).size) hkc k)
 have HCO := Lib.hid (fun (V : World) (hV : Below W1.heap.size W1 V) => count_any x n Aa Ak Al ats.length ca ck nb cb ks V k ((hk.below (hw2 V hV)).mono (hw2 V hV).size) hkc)
 have HFU := Lib.hid (fun (V : World) (hV : Below W1.heap.size W1 V) => functions_any hnf k n Aa Ak Al ats.length ca ck nb cb ks V (hcV V (hw2 V hV)) ((hk.below (hw2 V hV)).mono (hw2 V hV).size) hkc)
 have HRI := Lib.hid (fun (V : World) (hV : Below W1.heap.size W1 V) => rising_any Ak ck ks V ((hk.below (hw2 V hV)).mono (hw2 V hV).size) hkc)
 obtain ⟨⟨c0, c1, c2, c3, c4⟩, -⟩ := HR.out W1 (Below.refl _ _)
 clear hb0 hb1 hB hc ha hk hcV hw2 hR
 obtain ⟨out, hout⟩ : ∃ o, bindE nf x k n ats ks nb = o := ⟨_, rfl⟩
 rw [hout]
 have HO := Lib.hid (show out = (if bareB k n ats.length ks.length nb = false then 29 else if numberB nf x k n ats ks = false then 2 else if k = 2 ∧ inB n 1 16 = false then 28 else if countB x k n ats.length ks nb = false then 19 else if k = 10 ∧ funsB nf ks = false then 2 else if k = 8 ∧ risingB ks = false then 3 else 0) from hout.symm)
 clear hout
 go_enter Tryz.func54, Tryz.ntmps54
 go_wp2_with fail
 refine (HBA.out W1).mono ?_
 rintro en w2 ⟨rfl, hb2⟩
 obtain ⟨⟨p0, p1, p2, p3, p4⟩, p5, p6, p7, p8, p9, p10⟩ := HR.out w2 hb2
 have HN2 := Lib.hid (HNU.out w2 hb2)
 have HB2 := Lib.hid hb2
 clear hb2 HNU HBA
 cases h1 : bareB k n ats.length ks.length nb
 · have HF := Lib.hid (show out = 29 from HO.out.trans (by rw [if_pos h1]))
   go_wp2_with fail
   go_ret
   exact ⟨ret_int HF.out.symm, HW.out _ HB2.out⟩
 have ho2 := HO.out
 rw [if_neg (by rw [h1]; decide)] at ho2
 have HO2 := Lib.hid ho2
 clear ho2 h1 HO
 go_wp2_with fail
 refine HN2.out.mono ?_
 rintro en w3 ⟨rfl, hb3⟩
 have hb3' := HB2.out.trans (hb3.mono HB2.out.size)
 obtain ⟨⟨q0, q1, q2, q3, q4⟩, q5, q6, q7, q8, q9, q10⟩ := HR.out w3 hb3'
 have HC3 := Lib.hid (HCO.out w3 hb3')
 have HB3 := Lib.hid hb3'
 clear hb3 hb3' HN2 HB2 HCO p0 p1 p2 p3 p4 p5 p6 p7 p8 p9 p10
 cases h1 : numberB nf x k n ats ks
 · have HF := Lib.hid (show out = 2 from HO2.out.trans (by rw [if_pos h1]))
   go_wp2_with fail
   go_ret
   exact ⟨ret_int HF.out.symm, HW.out _ HB3.out⟩
 have ho3 := HO2.out
 rw [if_neg (by rw [h1]; decide)] at ho3
 have HO3 := Lib.hid ho3
 clear ho3 h1 HO2
 by_cases hbad : k = 2 ∧ inB n 1 16 = false
 · have HF := Lib.hid (show out = 28 from HO3.out.trans (by rw [if_pos hbad]))
   obtain ⟨hk2, hin⟩ := hbad
   have e2 : (k == 2) = true := by simpa using hk2
   clear hk2
   go_wp2_with (go_at_call 53; refine (within_any _ _ _ _).mono ?_; rintro en w' ⟨rfl, rfl⟩)
   go_ret
   exact ⟨ret_int HF.out.symm, HW.out _ HB3.out⟩
 have ho4 := HO3.out
 rw [if_neg hbad] at ho4
 have HO4 := Lib.hid ho4
 clear ho4 HO3
 have hcase : (k == 2) = false ∨ ((k == 2) = true ∧ inB n 1 16 = true) := by
  by_cases hk2 : k = 2
  · right
    refine ⟨by simpa using hk2, ?_⟩
    cases h : inB n 1 16
    · exact absurd ⟨hk2, h⟩ hbad
    · rfl
  · left; simpa using hk2
 clear hbad
 rcases hcase with e2 | ⟨e2, hin⟩
 · go_wp2_with fail
   refine HC3.out.mono ?_
   rintro en w4 ⟨rfl, hb4⟩
   have hb4' := HB3.out.trans (hb4.mono HB3.out.size)
   obtain ⟨⟨r0, r1, r2, r3, r4⟩, r5, r6, r7, r8, r9, r10⟩ := HR.out w4 hb4'
   have HFU4 := Lib.hid (HFU.out w4 hb4')
   have HRI4 := Lib.hid (HRI.out w4 hb4')
   have HB4 := Lib.hid hb4'
   clear hb4 hb4' HC3 HB3 HFU q0 q1 q2 q3 q4 q5 q6 q7 q8 q9 q10 e2
   cases h1 : countB x k n ats.length ks nb
   · have HF := Lib.hid (show out = 19 from HO4.out.trans (by rw [if_pos h1]))
     go_wp2_with fail
     go_ret
     exact ⟨ret_int HF.out.symm, HW.out _ HB4.out⟩
   have ho5 := HO4.out
   rw [if_neg (by rw [h1]; decide)] at ho5
   have HO5 := Lib.hid ho5
   clear ho5 h1 HO4
   cases e10 : (k == 10)
   · have hk10 : ¬ (k = 10 ∧ funsB nf ks = false) := by simp at e10; exact fun h => e10 h.1
     have ho6 := HO5.out
     rw [if_neg hk10] at ho6
     have HO6 := Lib.hid ho6
     clear ho6 hk10 HO5
     cases e8 : (k == 8)
     · have HF := Lib.hid (show out = 0 from HO6.out.trans (by simp at e8; rw [if_neg (fun h => e8 h.1)]))
       go_wp2_with fail
       go_ret
       exact ⟨ret_int HF.out.symm, HW.out _ HB4.out⟩
     · cases hri : risingB ks
       · have HF := Lib.hid (show out = 3 from HO6.out.trans (by simp at e8; rw [if_pos ⟨e8, hri⟩]))
         rw [hri] at HRI4
         go_wp2_with (go_at_call 80; refine HRI4.out.mono ?_; rintro en w' ⟨rfl, rfl⟩)
         go_ret
         exact ⟨ret_int HF.out.symm, HW.out _ HB4.out⟩
       · have HF := Lib.hid (show out = 0 from HO6.out.trans (by rw [if_neg (fun h => by rw [hri] at h; exact absurd h.2 (by decide))]))
         rw [hri] at HRI4
         go_wp2_with (go_at_call 80; refine HRI4.out.mono ?_; rintro en w' ⟨rfl, rfl⟩)
         go_ret
         exact ⟨ret_int HF.out.symm, HW.out _ HB4.out⟩
   · have e8 : (k == 8) = false := by simp at e10 ⊢; omega
     cases hfu : funsB nf ks
     · have HF := Lib.hid (show out = 2 from HO5.out.trans (by simp at e10; rw [if_pos ⟨e10, hfu⟩]))
       rw [hfu] at HFU4
       go_wp2_with (go_at_call 79; refine HFU4.out.mono ?_; rintro en w5 ⟨rfl, hb5⟩)
       go_ret
       exact ⟨ret_int HF.out.symm, HW.out _ (HB4.out.trans (hb5.mono HB4.out.size))⟩
     · have HF := Lib.hid (show out = 0 from HO5.out.trans (by simp at e10; rw [if_neg (fun h => by rw [hfu] at h; exact absurd h.2 (by decide)), if_neg (by omega)]))
       rw [hfu] at HFU4
       have HR5 := Lib.hid (fun (V : World) (hV : Below w4.heap.size w4 V) => (HR.out V (HB4.out.trans (hV.mono HB4.out.size))).1.1)
       go_wp2_with (go_at_call 79; refine HFU4.out.mono ?_; rintro en w5 ⟨rfl, hb5⟩; have s0 := HR5.out w5 hb5)
       go_ret
       exact ⟨ret_int HF.out.symm, HW.out _ (HB4.out.trans (hb5.mono HB4.out.size))⟩
 · go_wp2_with (go_at_call 53; refine (within_any _ _ _ _).mono ?_; rintro en w' ⟨rfl, rfl⟩)
   refine HC3.out.mono ?_
   rintro en w4 ⟨rfl, hb4⟩
   have hb4' := HB3.out.trans (hb4.mono HB3.out.size)
   obtain ⟨⟨r0, r1, r2, r3, r4⟩, r5, r6, r7, r8, r9, r10⟩ := HR.out w4 hb4'
   have HFU4 := Lib.hid (HFU.out w4 hb4')
   have HRI4 := Lib.hid (HRI.out w4 hb4')
   have HB4 := Lib.hid hb4'
   clear hb4 hb4' HC3 HB3 HFU q0 q1 q2 q3 q4 q5 q6 q7 q8 q9 q10 e2 hin
   cases h1 : countB x k n ats.length ks nb
   · have HF := Lib.hid (show out = 19 from HO4.out.trans (by rw [if_pos h1]))
     go_wp2_with fail
     go_ret
     exact ⟨ret_int HF.out.symm, HW.out _ HB4.out⟩
   have ho5 := HO4.out
   rw [if_neg (by rw [h1]; decide)] at ho5
   have HO5 := Lib.hid ho5
   clear ho5 h1 HO4
   cases e10 : (k == 10)
   · have hk10 : ¬ (k = 10 ∧ funsB nf ks = false) := by simp at e10; exact fun h => e10 h.1
     have ho6 := HO5.out
     rw [if_neg hk10] at ho6
     have HO6 := Lib.hid ho6
     clear ho6 hk10 HO5
     cases e8 : (k == 8)
     · have HF := Lib.hid (show out = 0 from HO6.out.trans (by simp at e8; rw [if_neg (fun h => e8 h.1)]))
       go_wp2_with fail
       go_ret
       exact ⟨ret_int HF.out.symm, HW.out _ HB4.out⟩
     · cases hri : risingB ks
       · have HF := Lib.hid (show out = 3 from HO6.out.trans (by simp at e8; rw [if_pos ⟨e8, hri⟩]))
         rw [hri] at HRI4
         go_wp2_with (go_at_call 80; refine HRI4.out.mono ?_; rintro en w' ⟨rfl, rfl⟩)
         go_ret
         exact ⟨ret_int HF.out.symm, HW.out _ HB4.out⟩
       · have HF := Lib.hid (show out = 0 from HO6.out.trans (by rw [if_neg (fun h => by rw [hri] at h; exact absurd h.2 (by decide))]))
         rw [hri] at HRI4
         go_wp2_with (go_at_call 80; refine HRI4.out.mono ?_; rintro en w' ⟨rfl, rfl⟩)
         go_ret
         exact ⟨ret_int HF.out.symm, HW.out _ HB4.out⟩
   · have e8 : (k == 8) = false := by simp at e10 ⊢; omega
     cases hfu : funsB nf ks
     · have HF := Lib.hid (show out = 2 from HO5.out.trans (by simp at e10; rw [if_pos ⟨e10, hfu⟩]))
       rw [hfu] at HFU4
       go_wp2_with (go_at_call 79; refine HFU4.out.mono ?_; rintro en w5 ⟨rfl, hb5⟩)
       go_ret
       exact ⟨ret_int HF.out.symm, HW.out _ (HB4.out.trans (hb5.mono HB4.out.size))⟩
     · have HF := Lib.hid (show out = 0 from HO5.out.trans (by simp at e10; rw [if_neg (fun h => by rw [hfu] at h; exact absurd h.2 (by decide)), if_neg (by omega)]))
       rw [hfu] at HFU4
       have HR5 := Lib.hid (fun (V : World) (hV : Below w4.heap.size w4 V) => (HR.out V (HB4.out.trans (hV.mono HB4.out.size))).1.1)
       go_wp2_with (go_at_call 79; refine HFU4.out.mono ?_; rintro en w5 ⟨rfl, hb5⟩; have s0 := HR5.out w5 hb5)
       go_ret
       exact ⟨ret_int HF.out.symm, HW.out _ (HB4.out.trans (hb5.mono HB4.out.size))⟩
end
end Go.Proofs.YtnobggabjpcbfaaGreat
namespace Go.Proofs.YtnobggabjpcbfaaGreat
open Go.RowKit Go.Maps
theorem undInt : Tryz.prog.underlying 3 = some (.int .i64) := by kernel_rfl
theorem undMap : Tryz.prog.underlying 83 = some (.map 3 3) := by kernel_rfl
theorem lawInt : Keyed Tryz.prog 3 := int_keyed undInt
theorem zeroInt (w : World) : (zeroValue 3).run Tryz.prog w = .ok (.int .i64 0) w := by kernel_rfl
def In64 (n : Int) : Prop := (Lit.int .i64 n).wf = true
theorem in64_small {n : Int} (h1 : -1000000000000000000 ≤ n) (h2 : n ≤ 1000000000000000000) : In64 n := WalkArith.wf_i64 (by omega)
structure KnownIn (cb_ mb nf n : Nat) (kn : List Int) (W : World) : Prop where
 chk : W.heap[cb_]? = some (.cells #[.int .i64 (nf : Int), .map (some mb)] 85 (0, 0))
 ne : cb_ ≠ mb
 map : ∃ D : DataW Unit, W.ownsMap Tryz.prog 3 (plainElem Tryz.prog 3) mb n D ∧ ∀ v, In64 v → D.atKey (.int .i64 v) (.lit (.int .i64 0)) = .lit (.int .i64 (kn.count v : Int))
section
variable {cb_ mb nf n : Nat} {kn : List Int} {W V : World}
theorem KnownIn.mono (h : KnownIn cb_ mb nf n kn W) {n' : Nat} (hn : n ≤ n') : KnownIn cb_ mb nf n' kn W := ⟨h.chk, h.ne, by obtain ⟨D, h1, h2⟩ := h.map; exact ⟨D, h1.mono hn, h2⟩⟩
theorem KnownIn.count (h : KnownIn cb_ mb nf n kn W) {kn' : List Int} (hk : ∀ v, kn'.count v = kn.count v) : KnownIn cb_ mb nf n kn' W := ⟨h.chk, h.ne, by obtain ⟨D, h1, h2⟩ := h.map; exact ⟨D, h1, fun v hv => by rw [h2 v hv, hk v]⟩⟩
theorem KnownIn.lt (h : KnownIn cb_ mb nf n kn W) : cb_ < W.heap.size ∧ mb < W.heap.size := ⟨(Array.getElem?_eq_some_iff.1 h.chk).1, by obtain ⟨D, h1, _⟩ := h.map; exact h1.lt⟩
theorem KnownIn.below (h : KnownIn cb_ mb nf n kn W) (hb : Below W.heap.size W V) : KnownIn cb_ mb nf n kn V := by
 refine ⟨(hb.block cb_ h.lt.1).trans h.chk, h.ne, ?_⟩
 obtain ⟨D, h1, h2⟩ := h.map
 exact ⟨D, h1.kept (row := none) ⟨hb.os, hb.tape, hb.output, hb.size, fun i hi _ => hb.block i hi⟩ (by simp), h2⟩
def Turned (mb : Nat) (W V : World) : Prop := W.grownBy V (some mb)
theorem Turned.refl (mb : Nat) (W : World) : Turned mb W W := ⟨rfl, rfl, rfl, Nat.le_refl _, fun _ _ _ => rfl⟩
theorem Turned.trans {a b c : World} (h : Turned mb a b) (k : Turned mb b c) : Turned mb a c := ⟨k.os.trans h.os, k.tape.trans h.tape, k.output.trans h.output, Nat.le_trans h.size k.size, fun i hi hn => (k.block i (Nat.lt_of_lt_of_le hi h.size) hn).trans (h.block i hi hn)⟩
theorem Turned.of_below {a b : World} (h : Below a.heap.size a b) : Turned mb a b := ⟨h.os, h.tape, h.output, h.size, fun i hi _ => h.block i hi⟩
theorem Turned.below {a b : World} (h : Turned mb a b) {B : Nat} (hB : B ≤ mb) (hB2 : B ≤ a.heap.size) : Below B a b := ⟨h.os, h.tape, h.output, h.size, fun i hi => h.block i (by omega) (by simp; omega)⟩
theorem Turned.cell {a b : World} (h : Turned mb a b) {q o : Nat} (hq : q ≠ mb) {v : Value} (hc : a.cell? ⟨q, o, none⟩ = some v) : b.cell? ⟨q, o, none⟩ = some v :=
 (World.cell?_of_block (w := a) (h.block q (World.block_lt_of_cell? _ _ hc) (by simp; omega))).trans hc
/-! ### asks -/
theorem casks_int (m : Int) : Calls Tryz.prog 58 #[.pointer (some ⟨cb_, 0, none⟩), .agg #[.bool false, .int .i64 m]] W fun e w' => e = .returned (.bool (asksB kn ⟨false, m⟩)) ∧ Below W.heap.size W w' := by
 have hb := below_alloc (Below.refl W.heap.size W) (.cells #[.bool false, .int .i64 m] 25)
 have HB := Lib.hid hb
 clear hb
 go_enter Tryz.func58, Tryz.ntmps58
 go_wp2_with fail
 go_quiet (fail)
 go_wp2_with fail
 go_ret
 exact ⟨ret_bool (by simp [asksB]), below_drewN HB.out _⟩
theorem casks_var (h : KnownIn cb_ mb nf n kn W) {m : Int} (hm : In64 m) : Calls Tryz.prog 58 #[.pointer (some ⟨cb_, 0, none⟩), .agg #[.bool true, .int .i64 m]] W fun e w' => e = .returned (.bool (asksB kn ⟨true, m⟩)) ∧ Below W.heap.size W w' := by
 obtain ⟨W0, hW0⟩ : ∃ W0, W.alloc (.cells #[.bool true, .int .i64 m] 25) = W0 := ⟨_, rfl⟩
 have hb0 : Below W.heap.size W W0 := by rw [← hW0]; exact (Below.refl _ _).alloc (Nat.le_refl _) _
 have c0 : W0.cell? ⟨W.heap.size, 0, none⟩ = some (.bool true) := by rw [← hW0, World.cell?_alloc_at _ _ _ _ rfl]; rfl
 have c1 : W0.cell? ⟨W.heap.size, 1, none⟩ = some (.int .i64 m) := by rw [← hW0, World.cell?_alloc_at _ _ _ _ rfl]; rfl
 have h0 := h.below hb0
 have q1 : W0.cell? ⟨cb_, 1, none⟩ = some (.map (some mb)) := by simp [World.cell?, h0.chk]
 obtain ⟨D, h1, h2⟩ := h0.map
 obtain ⟨c, -, hat, -⟩ := h1.lookup_int lawInt undMap undInt (zeroInt _) (keyOf_int_mk undInt hm)
 have hce : c = (kn.count m : Int) := by
  have := hat.symm.trans (h2 m hm)
  simpa using this
 have hl : ∀ V : World, V.heap[mb]? = W0.heap[mb]? → (Instr.lookup 83 (.map (some mb)) (.int .i64 m) false).run Tryz.prog V = .ok (.int .i64 (kn.count m : Int)) V := fun V hV => by
  have h1V : V.ownsMap Tryz.prog 3 (plainElem Tryz.prog 3) mb n D := by
   obtain ⟨es, clock, e1, e2⟩ := h1
   exact ⟨es, clock, hV.trans e1, e2⟩
  obtain ⟨c', hrun, hat', -⟩ := h1V.lookup_int lawInt undMap undInt (zeroInt _) (keyOf_int_mk undInt hm)
  have : c' = c := by
   have := hat'.symm.trans hat
   simpa using this
  rw [this, hce] at hrun
  exact hrun
 have hl0 := hl W0 rfl
 have hln := fun k => hl (W0.drewN k) rfl
 have hld := hl W0.drew rfl
 have HB := Lib.hid hb0
 clear h h0 h1 h2 hat hce hb0 hl
 go_enter Tryz.func58, Tryz.ntmps58
 go_wp2_with fail
 go_quiet (fail)
 go_wp2_with fail
 go_ret
 exact ⟨ret_bool (by simp [asksB, List.count_pos_iff]), below_drewN HB.out _⟩
theorem casks_any (h : KnownIn cb_ mb nf n kn W) (a : Atm) (hm : In64 a.n) : Calls Tryz.prog 58 #[.pointer (some ⟨cb_, 0, none⟩), .agg #[.bool a.v, .int .i64 a.n]] W fun e w' => e = .returned (.bool (asksB kn a)) ∧ Below W.heap.size W w' := by
 obtain ⟨v, m⟩ := a
 cases v
 · exact casks_int m
 · exact casks_var h hm
end
end Go.Proofs.YtnobggabjpcbfaaGreat
namespace Go.Proofs.YtnobggabjpcbfaaGreat
open Go.RowKit Go.Maps
section
variable {cb_ mb nf n : Nat} {kn : List Int} {W V : World}
theorem isKey_int (v : Int) : WideAt.IsKeyLit (.int .i64 v) := by
 simp [WideAt.IsKeyLit]
theorem lit_inj {a b : Int} (h : (DataW.lit (.int .i64 a) : DataW Unit) = .lit (.int .i64 b)) : a = b := by
 injection h with h
 injection h
theorem count_cons_ (v x : Int) (l : List Int) : (x :: l).count v = l.count v + (if x = v then 1 else 0) := by
 rw [List.count_cons]
 by_cases h : x = v <;> simp [h]
theorem know_any (h : KnownIn cb_ mb nf n kn W) {A : Option Addr} {c : Nat} {l : List Int} (hl : IntsIn W.heap.size W A l) (hlc : l.length ≤ c) (h64 : ∀ x ∈ l, In64 x) (hn : n + l.length ≤ 1000000000000) (hkn : kn.length + l.length ≤ 1000000000000) (hA : ∀ a, A = some a → a.block ≠ mb) :
 Calls Tryz.prog 35 #[.pointer (some ⟨cb_, 0, none⟩), .slice A l.length c] W fun e w' => e = .returned (.tuple #[]) ∧ KnownIn cb_ mb nf (n + l.length) (l ++ kn) w' ∧ Turned mb W w' := by
 have HL := Lib.hid (fun (j : Nat) (hj : j < l.length) (V : World) (hV : Turned mb W V) => (show ∃ b o, A = some ⟨b, o, none⟩ ∧ V.cell? ⟨b, o + j, none⟩ = some (.int .i64 (nth l j)) from by
  obtain ⟨b, o, h1, h2, h3⟩ := hl.at_ (by omega)
  exact ⟨b, o, h1, hV.cell (hA _ h1) (h3 j hj)⟩))
 have H64 := Lib.hid h64
 have hl8 := hl.1
 have hst : KnownIn cb_ mb nf (n + 0) ((l.take 0).reverse ++ kn) W := h
 have HST := Lib.hid hst
 clear hl h64 h hA hst
 obtain ⟨M, hM⟩ : ∃ M, l.length = M := ⟨_, rfl⟩
 have HM := Lib.hid hM
 rw [hM] at hlc hn hkn HL hl8 ⊢
 clear hM
 go_enter Tryz.func35, Tryz.ntmps35
 go_wp2_with fail
 go_loopw [8] (fun iv wr => ∃ j : Nat, j ≤ M ∧ iv = .int .i64 (j : Int) ∧ Hid (KnownIn cb_ mb nf (n + j) ((l.take j).reverse ++ kn) wr) ∧ Hid (Turned mb W wr)) (fun iv _ => M + 1 - (intOf iv).toNat)
 case atStart => exact ⟨0, by omega, rfl, HST, Lib.hid (Turned.refl _ _)⟩
 case round =>
  obtain ⟨j, hj, rfl, HK, HT⟩ := hrel
  by_cases hlt : j < M
  · obtain ⟨b, o, rfl, qk⟩ := HL.out j hlt wr HT.out
    have e1 : (0 : Int) ≤ (j : Int) := by omega
    have e2 : (j : Int) < (M : Int) := by omega
    have e4 : IntKind.i64.wrap ((j : Int) + 1) = (j : Int) + 1 := by rw [IntKind.wrap_i64]; omega
    have e5 : (M : Int) ≤ (c : Int) := by omega
    have q1 : wr.cell? ⟨cb_, 1, none⟩ = some (.map (some mb)) := by simp [World.cell?, HK.out.chk]
    obtain ⟨D, hD, hat⟩ := HK.out.map
    have hx : In64 (nth l j) := H64.out _ (nth_mem l (by rw [HM.out]; exact hlt))
    have hcl : (((l.take j).reverse ++ kn).count (nth l j) : Int) ≤ 1000000000000 := by
     have h1 := List.count_le_length (a := nth l j) (l := (l.take j).reverse ++ kn)
     have h2 : ((l.take j).reverse ++ kn).length ≤ M + kn.length := by simp; omega
     omega
    have hcl0 : (0 : Int) ≤ (((l.take j).reverse ++ kn).count (nth l j) : Int) := by omega
    have hkey := keyOf_int_mk (P := Tryz.prog) undInt hx
    have HAT := Lib.hid hat
    have HX := Lib.hid hx
    have HSTEP := Lib.hid (show (l.take (j + 1)).reverse ++ kn = nth l j :: ((l.take j).reverse ++ kn) from by rw [take_snoc l (by rw [HM.out]; exact hlt)]; simp)
    clear hat hx
    generalize hcc : (((l.take j).reverse ++ kn).count (nth l j) : Int) = cc at *
    have HCC := Lib.hid hcc
    have e6 : IntKind.i64.wrap (cc + 1) = cc + 1 := by rw [IntKind.wrap_i64]; omega
    have hwf : (Lit.int .i64 (cc + 1)).wf = true := WalkArith.wf_i64 (by omega)
    clear hcc
    generalize hv : nth l j = v at *
    go_wp2_with (first
     | (at_lookup; refine wpList_lookup_own_int _ rfl _ _ 83 rfl 3 3 .i64 lawInt undMap undInt (zeroInt _) mb (n + j) D rfl hD _ _ rfl hkey ?_; intro c2 hat2 hwc; obtain rfl : c2 = cc := by (have h9 := lit_inj (hat2.symm.trans (HAT.out v HX.out)); have h8 := HCC.out; first | omega | (rw [if_pos rfl] at h9; omega)))
     | (at_mapUpdate; refine wpList_mapUpdate_in _ rfl _ _ _ 83 rfl 3 3 lawInt undMap _ mb (n + j) D rfl hD (by unfold maxLen; omega) _ _ _ rfl rfl hkey _ [] (plainElem_int undInt (by first | exact hwf | (rw [e6]; exact hwf))) ?_; intro w1 hown1 hturn1))
    have hg := hturn1.grown
    have HT2 := Lib.hid (show Turned mb W w1 from HT.out.trans hg)
    have HK2 := Lib.hid (show KnownIn cb_ mb nf (n + (j + 1)) ((l.take (j + 1)).reverse ++ kn) w1 from
     ⟨(hg.block cb_ HK.out.lt.1 (by have := HK.out.ne; simp; omega)).trans HK.out.chk, HK.out.ne, _, hown1, fun u hu => by
      rw [HSTEP.out, count_cons_]
      by_cases hvu : v = u
      · subst hvu
        rw [atKey_put_same hD.isMap (isKey_int v), if_pos rfl]
        have := HCC.out
        exact congrArg (fun z : Int => (DataW.lit (.int .i64 z) : DataW Unit)) (by omega)
      · rw [atKey_put_other (by simp; exact fun h => hvu h.symm), HAT.out u hu, if_neg hvu]; rfl⟩)
    clear hown1 hturn1 hg
    go_roundw
    case rel => exact ⟨j + 1, by omega, by go_num, HK2, HT2⟩
    case measure => simp [intOf]; omega
  · have e2 : ¬ (j : Int) < (M : Int) := by omega
    have hjM : j = M := by omega
    subst hjM
    have HE := Lib.hid (HK.out.count (kn' := l ++ kn) (fun v => by rw [List.take_of_length_le (by rw [HM.out]; omega)]; simp))
    go_wp2_with fail
    go_end0
    exact ⟨rfl, HE.out, HT.out⟩
theorem forget_any {A : Option Addr} {c : Nat} {l : List Int} (h : KnownIn cb_ mb nf n (l ++ kn) W) (hl : IntsIn W.heap.size W A l) (hlc : l.length ≤ c) (h64 : ∀ x ∈ l, In64 x) (hn : n + l.length ≤ 1000000000000) (hkn : kn.length + l.length ≤ 1000000000000) (hA : ∀ a, A = some a → a.block ≠ mb) :
 Calls Tryz.prog 37 #[.pointer (some ⟨cb_, 0, none⟩), .slice A l.length c] W fun e w' => e = .returned (.tuple #[]) ∧ KnownIn cb_ mb nf (n + l.length) kn w' ∧ Turned mb W w' := by
 have HL := Lib.hid (fun (j : Nat) (hj : j < l.length) (V : World) (hV : Turned mb W V) => (show ∃ b o, A = some ⟨b, o, none⟩ ∧ V.cell? ⟨b, o + j, none⟩ = some (.int .i64 (nth l j)) from by
  obtain ⟨b, o, h1, h2, h3⟩ := hl.at_ (by omega)
  exact ⟨b, o, h1, hV.cell (hA _ h1) (h3 j hj)⟩))
 have H64 := Lib.hid h64
 have hl8 := hl.1
 have hst : KnownIn cb_ mb nf (n + 0) (l.drop 0 ++ kn) W := h
 have HST := Lib.hid hst
 clear hl h64 h hA hst
 obtain ⟨M, hM⟩ : ∃ M, l.length = M := ⟨_, rfl⟩
 have HM := Lib.hid hM
 rw [hM] at hlc hn hkn HL hl8 ⊢
 clear hM
 go_enter Tryz.func37, Tryz.ntmps37
 go_wp2_with fail
 go_loopw [8] (fun iv wr => ∃ j : Nat, j ≤ M ∧ iv = .int .i64 (j : Int) ∧ Hid (KnownIn cb_ mb nf (n + j) (l.drop j ++ kn) wr) ∧ Hid (Turned mb W wr)) (fun iv _ => M + 1 - (intOf iv).toNat)
 case atStart => exact ⟨0, by omega, rfl, HST, Lib.hid (Turned.refl _ _)⟩
 case round =>
  obtain ⟨j, hj, rfl, HK, HT⟩ := hrel
  by_cases hlt : j < M
  · obtain ⟨b, o, rfl, qk⟩ := HL.out j hlt wr HT.out
    have e1 : (0 : Int) ≤ (j : Int) := by omega
    have e2 : (j : Int) < (M : Int) := by omega
    have e4 : IntKind.i64.wrap ((j : Int) + 1) = (j : Int) + 1 := by rw [IntKind.wrap_i64]; omega
    have e5 : (M : Int) ≤ (c : Int) := by omega
    have q1 : wr.cell? ⟨cb_, 1, none⟩ = some (.map (some mb)) := by simp [World.cell?, HK.out.chk]
    obtain ⟨D, hD, hat⟩ := HK.out.map
    have hx : In64 (nth l j) := H64.out _ (nth_mem l (by rw [HM.out]; exact hlt))
    have HSTEP := Lib.hid (show l.drop j ++ kn = nth l j :: (l.drop (j + 1) ++ kn) from by rw [nth_eq l (by rw [HM.out]; exact hlt), List.drop_eq_getElem_cons (by rw [HM.out]; exact hlt)]; rfl)
    have hcl : ((l.drop (j + 1) ++ kn).count (nth l j) : Int) ≤ 1000000000000 := by
     have h1 := List.count_le_length (a := nth l j) (l := l.drop (j + 1) ++ kn)
     have h2 : (l.drop (j + 1) ++ kn).length ≤ M + kn.length := by have := HM.out; simp; omega
     omega
    have hkey := keyOf_int_mk (P := Tryz.prog) undInt hx
    have HX := Lib.hid hx
    have HAT := Lib.hid (show ∀ u, In64 u → D.atKey (.int .i64 u) (.lit (.int .i64 0)) = .lit (.int .i64 (((l.drop (j + 1) ++ kn).count u : Int) + (if nth l j = u then 1 else 0))) from fun u hu => by
     rw [hat u hu, HSTEP.out, count_cons_]
     split <;> simp)
    clear hat hx
    obtain ⟨cc, hcc⟩ : ∃ cc : Nat, (l.drop (j + 1) ++ kn).count (nth l j) = cc := ⟨_, rfl⟩
    rw [hcc] at hcl
    have HCC := Lib.hid hcc
    have e6 : IntKind.i64.wrap ((cc : Int) + 1 - 1) = (cc : Int) := by rw [IntKind.wrap_i64]; omega
    have hwf : (Lit.int .i64 (cc : Int)).wf = true := WalkArith.wf_i64 (by omega)
    clear hcc
    generalize hv : nth l j = v at *
    have hne := Lib.hid HK.out.ne
    have hclt := Lib.hid HK.out.lt
    have hchk := Lib.hid HK.out.chk
    cases hz : ((cc : Int) == 0)
    · go_wp2_with (first
       | (at_lookup; refine wpList_lookup_own_int _ rfl _ _ 83 rfl 3 3 .i64 lawInt undMap undInt (zeroInt _) mb (n + j) D rfl hD _ _ rfl hkey ?_; intro c2 hat2 hwc; obtain rfl : c2 = (cc : Int) + 1 := by (have h9 := lit_inj (hat2.symm.trans (HAT.out v HX.out)); have h8 := HCC.out; first | omega | (rw [if_pos rfl] at h9; omega)))
       | (at_lookup; refine wpList_lookup_own_int _ rfl _ _ 83 rfl 3 3 .i64 lawInt undMap undInt (zeroInt _) mb (n + j + 1) _ rfl hown1 _ _ rfl hkey ?_; intro c3 hat3 hwc3; obtain rfl : c3 = (cc : Int) := by (rw [atKey_put_same hD.isMap (isKey_int v)] at hat3; have h9 := lit_inj hat3; omega))
       | (at_mapUpdate; refine wpList_mapUpdate_in _ rfl _ _ _ 83 rfl 3 3 lawInt undMap _ mb (n + j) D rfl hD (by unfold maxLen; omega) _ _ _ rfl rfl hkey _ [] (plainElem_int undInt (by first | exact hwf | (rw [e6]; exact hwf))) ?_; intro w1 hown1 hturn1; have p1 : w1.cell? ⟨cb_, 1, none⟩ = some (.map (some mb)) := (show Turned mb wr w1 from hturn1.grown).cell hne.out q1))
      have hg := hturn1.grown
      have HT2 := Lib.hid (show Turned mb W w1 from HT.out.trans hg)
      have HK2 := Lib.hid (show KnownIn cb_ mb nf (n + (j + 1)) (l.drop (j + 1) ++ kn) w1 from
       ⟨(hg.block cb_ hclt.out.1 (by have := hne.out; simp; omega)).trans hchk.out, hne.out, _, hown1, fun u hu => by
        by_cases hvu : v = u
        · subst hvu
          rw [atKey_put_same hD.isMap (isKey_int v), HCC.out]
        · rw [atKey_put_other (by simp; exact fun h => hvu h.symm), HAT.out u hu, if_neg hvu]; simp⟩)
      clear hown1 hturn1 hg
      go_roundw
      case rel => exact ⟨j + 1, by omega, by go_num, HK2, HT2⟩
      case measure => simp [intOf]; omega
    · go_wp2_with (first
       | (at_lookup; refine wpList_lookup_own_int _ rfl _ _ 83 rfl 3 3 .i64 lawInt undMap undInt (zeroInt _) mb (n + j) D rfl hD _ _ rfl hkey ?_; intro c2 hat2 hwc; obtain rfl : c2 = (cc : Int) + 1 := by (have h9 := lit_inj (hat2.symm.trans (HAT.out v HX.out)); have h8 := HCC.out; first | omega | (rw [if_pos rfl] at h9; omega)))
       | (at_lookup; refine wpList_lookup_own_int _ rfl _ _ 83 rfl 3 3 .i64 lawInt undMap undInt (zeroInt _) mb (n + j + 1) _ rfl hown1 _ _ rfl hkey ?_; intro c3 hat3 hwc3; obtain rfl : c3 = (cc : Int) := by (rw [atKey_put_same hD.isMap (isKey_int v)] at hat3; have h9 := lit_inj hat3; omega))
       | (at_mapUpdate; refine wpList_mapUpdate_in _ rfl _ _ _ 83 rfl 3 3 lawInt undMap _ mb (n + j) D rfl hD (by unfold maxLen; omega) _ _ _ rfl rfl hkey _ [] (plainElem_int undInt (by first | exact hwf | (rw [e6]; exact hwf))) ?_; intro w1 hown1 hturn1; have p1 : w1.cell? ⟨cb_, 1, none⟩ = some (.map (some mb)) := (show Turned mb wr w1 from hturn1.grown).cell hne.out q1)
       | (at_delete; refine wpList_delete_own _ rfl _ _ 83 3 rfl 3 lawInt undMap _ mb (n + j + 1) _ rfl hown1 _ _ rfl hkey ?_; intro w2 hown2 hturn2))
      have hg := hturn1.grown
      have hg2 := hturn2.grown
      have HT2 := Lib.hid (show Turned mb W w2 from HT.out.trans (Turned.trans hg hg2))
      have HK2 := Lib.hid (show KnownIn cb_ mb nf (n + (j + 1)) (l.drop (j + 1) ++ kn) w2 from
       ⟨((Turned.trans hg hg2).block cb_ hclt.out.1 (by have := hne.out; simp; omega)).trans hchk.out, hne.out, _, hown2, fun u hu => by
        by_cases hvu : v = u
        · subst hvu
          rw [atKey_del_same, HCC.out]
          simp at hz
          simp [hz]
        · rw [atKey_del_other (by simp; exact fun h => hvu h.symm), atKey_put_other (by simp; exact fun h => hvu h.symm), HAT.out u hu, if_neg hvu]; simp⟩)
      clear hown1 hturn1 hg hown2 hturn2 hg2
      go_roundw
      case rel => exact ⟨j + 1, by omega, by go_num, HK2, HT2⟩
      case measure => simp [intOf]; omega
  · have e2 : ¬ (j : Int) < (M : Int) := by omega
    have hjM : j = M := by omega
    subst hjM
    have HE := Lib.hid (HK.out.count (kn' := kn) (fun v => by rw [List.drop_of_length_le (by rw [HM.out]; omega)]; simp))
    go_wp2_with fail
    go_end0
    exact ⟨rfl, HE.out, HT.out⟩
end
end Go.Proofs.YtnobggabjpcbfaaGreat
namespace Go.Proofs.YtnobggabjpcbfaaGreat
open Go.RowKit Go.Maps
mutual
def szA : Anf → Nat
 | .ret _ => 0
 | .bind _ _ _ _ ks bl r => 1 + ks.length + szL bl + szA r
def szL : List Anf → Nat
 | [] => 0
 | c :: cs => szA c + szL cs
end
mutual
def rngA : Anf → Prop
 | .ret a => In64 a.n
 | .bind _ _ _ ats _ bl r => (∀ a ∈ ats, In64 a.n) ∧ rngL bl ∧ rngA r
def rngL : List Anf → Prop
 | [] => True
 | c :: cs => rngA c ∧ rngL cs
end
theorem rngL_at : ∀ {bl : List Anf}, rngL bl → ∀ c ∈ bl, rngA c
 | c :: cs, h, d, hd => by
  unfold rngL at h
  rcases List.mem_cons.1 hd with rfl | hd
  · exact h.1
  · exact rngL_at h.2 d hd
theorem rngA_tail : ∀ {t : Anf}, rngA t → ∀ j, rngA (t.tail j)
 | t, h, 0 => by rw [Anf.tail_zero]; exact h
 | .ret a, h, j + 1 => h
 | .bind _ _ _ _ _ _ r, h, j + 1 => by
  unfold rngA at h
  exact rngA_tail h.2.2 j
theorem rngA_last : ∀ {t : Anf}, rngA t → In64 t.last.n
 | .ret a, h => h
 | .bind _ _ _ _ _ _ r, h => by
  unfold rngA at h
  exact rngA_last (t := r) h.2.2
theorem szL_at : ∀ {bl : List Anf}, ∀ c ∈ bl, szA c ≤ szL bl
 | c :: cs, d, hd => by
  unfold szL
  rcases List.mem_cons.1 hd with rfl | hd
  · omega
  · have := szL_at d hd; omega
theorem szL_drop : ∀ {bl : List Anf} {q : Nat} (hq : q < bl.length), szL (bl.drop q) = szA bl[q] + szL (bl.drop (q + 1))
 | c :: cs, 0, _ => by simp [szL]
 | c :: cs, q + 1, hq => by
  have := szL_drop (bl := cs) (q := q) (by simpa using hq)
  simpa using this
theorem blocksE_drop {nf : Nat} {kn : List Int} : ∀ {bl : List Anf} {q : Nat} (hq : q < bl.length), blocksE nf kn (bl.drop q) = if bodyE nf kn bl[q] ≠ 0 then bodyE nf kn bl[q] else blocksE nf kn (bl.drop (q + 1))
 | c :: cs, 0, _ => by simp [blocksE]
 | c :: cs, q + 1, hq => by
  have := blocksE_drop (nf := nf) (kn := kn) (bl := cs) (q := q) (by simpa using hq)
  simpa using this
theorem in64_var {n : Int} (h : varB n = true) : In64 n := by
 have := inB_iff.1 h
 exact in64_small (by omega) (by omega)
section
variable {cb_ mb nf n vb : Nat} {kn : List Int} {W V : World}
theorem body1_any (h : KnownIn cb_ mb nf n kn W) (hv : W.cell? ⟨vb, 0, none⟩ = some (.pointer (some ⟨cb_, 0, none⟩))) (a : Atm) (ha : In64 a.n) :
 Calls Tryz.prog 57 #[.agg #[.bool a.v, .int .i64 a.n], .pointer (some ⟨vb, 0, none⟩)] W fun e w' => e = .returned (.bool (!asksB kn a)) ∧ Below W.heap.size W w' := by
 obtain ⟨W0, hW0⟩ : ∃ W0, W.alloc (.cells #[.bool a.v, .int .i64 a.n] 25) = W0 := ⟨_, rfl⟩
 have hb0 : Below W.heap.size W W0 := by rw [← hW0]; exact (Below.refl _ _).alloc (Nat.le_refl _) _
 have c0 : W0.cell? ⟨W.heap.size, 0, none⟩ = some (.bool a.v) := by rw [← hW0, World.cell?_alloc_at _ _ _ _ rfl]; rfl
 have c1 : W0.cell? ⟨W.heap.size, 1, none⟩ = some (.int .i64 a.n) := by rw [← hW0, World.cell?_alloc_at _ _ _ _ rfl]; rfl
 have q1 := cell_behind hb0 hv
 have HC := Lib.hid (casks_any (h.below hb0) a ha)
 have HB := Lib.hid hb0
 clear h hb0 hv
 generalize a.v = av at *
 generalize a.n = an at *
 go_enter Tryz.func57, Tryz.ntmps57
 go_wp2_with fail
 refine HC.out.mono ?_
 rintro en w' ⟨rfl, hb⟩
 go_wp2_with fail
 go_ret
 exact ⟨rfl, HB.out.trans (hb.mono HB.out.size)⟩
theorem asked_any (h : KnownIn cb_ mb nf n kn W) (hv : W.cell? ⟨vb, 0, none⟩ = some (.pointer (some ⟨cb_, 0, none⟩))) {ats : List Atm} {Aa : Option Addr} {ca : Nat} (ha : AtomsIn W.heap.size W Aa ats) (hac : ats.length ≤ ca) (hr : ∀ a ∈ ats, In64 a.n) :
 Calls Tryz.prog 56 #[.slice Aa ats.length ca, .func (.func 57) #[] #[.pointer (some ⟨vb, 0, none⟩)]] W fun e w' => e = .returned (.bool (!ats.all (asksB kn))) ∧ Below W.heap.size W w' :=
 (contains_ask ha hac (fun a => !asksB kn a) (fun a hm V hV => body1_any (h.below hV) (cell_behind hV hv) a (hr a hm))).mono fun e w' h => ⟨h.1.trans (ret_bool (by rw [Bool.eq_iff_iff]; simp)), h.2⟩
end
end Go.Proofs.YtnobggabjpcbfaaGreat
