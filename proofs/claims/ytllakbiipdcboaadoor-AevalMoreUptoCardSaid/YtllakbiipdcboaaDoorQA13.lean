/-
  3 texts of this seat in one: PA7 PR5 PB4.
-/
import Derived.Test.YtllakbiipdcboaaDoorQA12
import Derived.Test.YtllakbiipdcboaaDoorQA11
import Derived.Test.YtllakbiipdcboaaDoorQA10
import Derived.RangeFuncBound
/-
  anf: bind.
-/
set_option linter.unusedVariables false
set_option linter.unusedSimpArgs false
namespace Go.Proofs.YtllakbiipdcboaaDoor
open Go.RowKit

theorem BindOk.fixM {nf : Nat} {x k n : Int} {na nk nb : Nat} (h : countB k n na nk nb = true) (h7 : k = 7) : ∃ M, nk = 2 * M ∧ 1 ≤ M := by
  subst h7
  unfold countB at h
  simp at h
  obtain ⟨a, b, c, d⟩ := h
  exact ⟨nb, by omega, by omega⟩
section
variable (x k n : Int) {Aa Ak Al : Option Addr} {ca ck nb cb : Nat} {ats : List Atm} {ks : List Int} {w : World}
set_option maxRecDepth 100000 in
set_option maxHeartbeats 4000000 in
theorem bind_any (hsh : ShapesIn w.heap.size w) (ha : AtomsIn w.heap.size w Aa ats) (hac : ats.length ≤ ca) (hk : IntsIn w.heap.size w Ak ks) (hkc : ks.length ≤ ck) (hnb : nb * 8 ≤ 140737488351232) :
    Calls Tryd.prog 23 #[.agg #[.int .i64 x, .int .i64 k, .int .i64 n, .slice Aa ats.length ca, .slice Ak ks.length ck, .slice Al nb cb]] w fun e w' => e = .returned (.int .i64 (bindE x k n ats ks nb)) ∧ Below w.heap.size w w' := by
  obtain ⟨W0, hW0⟩ : ∃ W0, w.alloc (.cells #[.int .i64 x, .int .i64 k, .int .i64 n, .slice Aa ats.length ca, .slice Ak ks.length ck, .slice Al nb cb] 45) = W0 := ⟨_, rfl⟩
  have hb0 : Below w.heap.size w W0 := by rw [← hW0]; exact (Below.refl _ _).alloc (Nat.le_refl _) _
  have hR := (show BindAt W0 w.heap.size x k n Aa Ak Al ats.length ca ks.length ck nb cb from by rw [← hW0]; exact BindAt.new _ _ _ _ _ _ _ _ _ _ _ _ _)
  have HR := Lib.hid (fun (V : World) (hV : Below W0.heap.size W0 V) => (show V.cell? ⟨w.heap.size, 0, none⟩ = some (.int .i64 x) ∧ V.cell? ⟨w.heap.size, 1, none⟩ = some (.int .i64 k) ∧ V.cell? ⟨w.heap.size, 2, none⟩ = some (.int .i64 n) ∧ V.cell? ⟨w.heap.size, 3, none⟩ = some (.slice Aa ats.length ca) ∧ V.cell? ⟨w.heap.size, 4, none⟩ = some (.slice Ak ks.length ck) ∧ V.cell? ⟨w.heap.size, 5, none⟩ = some (.slice Al nb cb) from
    have h := hR.behind hV
    ⟨h.c0, h.c1, h.c2, h.c3, h.c4, h.c5⟩))
  have HW := Lib.hid (fun (V : World) (hV : Below W0.heap.size W0 V) => (show Below w.heap.size w V from hb0.trans (hV.mono hb0.size)))
  have HNU := Lib.hid (fun (V : World) => number_any' n Aa Ak Al ats.length ca ks.length ck nb cb V k)
  have h64 := hk.1
  have h16 := ha.1
  have HCO := Lib.hid (fun (V : World) (hV : Below W0.heap.size W0 V) (h1 : 1 ≤ k) (h8 : k ≤ 8) => (show Calls Tryd.prog 37 #[.agg #[.int .i64 k, .int .i64 n, .slice Aa ats.length ca, .slice Ak ks.length ck, .slice Al nb cb]] V fun e w' => e = .returned (.bool (countB k n ats.length ks.length nb)) ∧ Below V.heap.size V w' from
    counts_any n Aa Ak Al ats.length ca ks.length ck nb cb V k h1 h8 (by
      have h := hsh.kept (HW.out V hV)
      exact ⟨Nat.lt_of_lt_of_le h.lt (HW.out V hV).size, h.w0, h.w1, h.w2⟩) h64 ⟨by omega, hnb⟩))
  have HCN := Lib.hid (fun (V : World) (hV : Below W0.heap.size W0 V) => (show Calls Tryd.prog 38 #[.slice Aa ats.length ca, .func (.func 39) #[] #[]] V fun e w' => e = .returned (.bool (ats.any fun a => !atomB a)) ∧ Below V.heap.size V w' from
    contains_num ((ha.below (HW.out V hV)).mono (HW.out V hV).size) hac (fun a => !atomB a) (fun a _ V2 _ => notatom_any a.v a.n V2)))
  have HKE := Lib.hid (fun (V : World) (hV : Below W0.heap.size W0 V) (hc : countB k n ats.length ks.length nb = true) => (show Calls Tryd.prog 40 #[.agg #[.int .i64 x, .int .i64 k, .int .i64 n, .slice Aa ats.length ca, .slice Ak ks.length ck, .slice Al nb cb]] V fun e w' => e = .returned (.bool (keysA x k ks)) ∧ Below V.heap.size V w' from
    keys_any x n Aa Al ats.length ca nb cb k ((hk.below (HW.out V hV)).mono (HW.out V hV).size) hkc (BindOk.fixM (nf := 0) (x := 0) (n := n) hc)))
  have HO := Lib.hid (show bindE x k n ats ks nb = (if k < 1 ∨ 8 < k then 29 else if varB x = false then 2 else if numA k n ≠ 0 then numA k n else if countB k n ats.length ks.length nb = false then 19 else if ats.all atomB = false ∨ keysA x k ks = false then 2 else 0) from rfl)
  have hany : (ats.any fun a => !atomB a) = !(ats.all atomB) := by rw [List.all_eq_not_any_not, Bool.not_not]
  rw [hany] at HCN
  obtain ⟨c0, c1, -, -, -, -⟩ := HR.out W0 (Below.refl _ _)
  clear hb0 hR hsh ha hk hany
  obtain ⟨out, hout⟩ : ∃ o, bindE x k n ats ks nb = o := ⟨_, rfl⟩
  rw [hout] at HO ⊢
  clear hout
  generalize ats.length = NA at *
  generalize ks.length = NK at *
  generalize countB k n NA NK nb = cnt at *
  generalize ats.all atomB = al at *
  generalize keysA x k ks = ky at *
  go_enter Tryd.func23, Tryd.ntmps23
  by_cases h1 : k < 1
  · have HF := Lib.hid (show out = 29 from by rw [HO.out, if_pos (.inl h1)])
    go_wp2_with fail
    go_ret
    exact ⟨ret_int HF.out.symm, HW.out _ (Below.refl _ _)⟩
  by_cases h8 : 8 < k
  · have HF := Lib.hid (show out = 29 from by rw [HO.out, if_pos (.inr h8)])
    go_wp2_with fail
    go_ret
    exact ⟨ret_int HF.out.symm, HW.out _ (Below.refl _ _)⟩
  have ho := HO.out
  rw [if_neg (by omega)] at ho
  have HO1 := Lib.hid ho
  have H1 := Lib.hid (show 1 ≤ k from by omega)
  have H8 := Lib.hid (show k ≤ 8 from by omega)
  clear ho HO
  cases hv : varB x
  · have HF := Lib.hid (show out = 2 from by rw [HO1.out, if_pos hv])
    go_wp2_with (go_at_call 34; refine (variable_any _ _).mono ?_; rintro en w' ⟨rfl, rfl⟩)
    go_ret
    exact ⟨ret_int HF.out.symm, HW.out _ (Below.refl _ _)⟩
  have ho := HO1.out
  rw [if_neg (by rw [hv]; decide)] at ho
  have HO2 := Lib.hid ho
  clear ho HO1
  obtain ⟨ne, hne⟩ : ∃ z, numA k n = z := ⟨_, rfl⟩
  rw [hne] at HO2 HNU
  clear hne
  have HNU0 := Lib.hid (HNU.out W0)
  obtain ⟨d0, d1, d2, d3, d4, d5⟩ := HR.out W0 (Below.refl _ _)
  clear HNU
  by_cases hz : ne = 0
  rotate_left
  · have HF := Lib.hid (show out = ne from by rw [HO2.out, if_pos hz])
    have e0 : (ne != 0) = true := by simpa using hz
    clear hz
    go_wp2_with (first | (go_at_call 34; refine (variable_any _ _).mono ?_; rintro en w' ⟨rfl, rfl⟩) | (go_at_call 36; refine HNU0.out.mono ?_; rintro en w1 ⟨rfl, hb1⟩; obtain ⟨p0, p1, p2, p3, p4, p5⟩ := HR.out w1 hb1))
    go_ret
    exact ⟨ret_int HF.out.symm, HW.out _ hb1⟩
  subst hz
  have ho := HO2.out
  rw [if_neg (by simp)] at ho
  have HO3 := Lib.hid ho
  clear ho HO2
  cases cnt
  · have HF := Lib.hid (show out = 19 from HO3.out)
    go_wp2_with (first | (go_at_call 34; refine (variable_any _ _).mono ?_; rintro en w' ⟨rfl, rfl⟩) | (go_at_call 36; refine HNU0.out.mono ?_; rintro en w1 ⟨rfl, hb1⟩; obtain ⟨p0, p1, p2, p3, p4, p5⟩ := HR.out w1 hb1) | (go_at_call 37; refine (HCO.out w1 hb1 H1.out H8.out).mono ?_; rintro en w2 ⟨rfl, hb2⟩; have hb2' := hb1.trans (hb2.mono hb1.size); obtain ⟨q0, q1, q2, q3, q4, q5⟩ := HR.out w2 hb2'))
    go_ret
    exact ⟨ret_int HF.out.symm, HW.out _ hb2'⟩
  cases al
  · have HF := Lib.hid (show out = 2 from by rw [HO3.out]; simp)
    go_wp2_with (first | (go_at_call 34; refine (variable_any _ _).mono ?_; rintro en w' ⟨rfl, rfl⟩) | (go_at_call 36; refine HNU0.out.mono ?_; rintro en w1 ⟨rfl, hb1⟩; obtain ⟨p0, p1, p2, p3, p4, p5⟩ := HR.out w1 hb1) | (go_at_call 37; refine (HCO.out w1 hb1 H1.out H8.out).mono ?_; rintro en w2 ⟨rfl, hb2⟩; have hb2' := hb1.trans (hb2.mono hb1.size); obtain ⟨q0, q1, q2, q3, q4, q5⟩ := HR.out w2 hb2') | (go_at_call 38; refine (HCN.out w2 hb2').mono ?_; rintro en w3 ⟨rfl, hb3⟩; have hb3' := hb2'.trans (hb3.mono hb2'.size); obtain ⟨r0, r1, r2, r3, r4, r5⟩ := HR.out w3 hb3'))
    go_ret
    exact ⟨ret_int HF.out.symm, HW.out _ hb3'⟩
  cases ky
  · have HF := Lib.hid (show out = 2 from by rw [HO3.out]; simp)
    go_wp2_with (first | (go_at_call 34; refine (variable_any _ _).mono ?_; rintro en w' ⟨rfl, rfl⟩) | (go_at_call 36; refine HNU0.out.mono ?_; rintro en w1 ⟨rfl, hb1⟩; obtain ⟨p0, p1, p2, p3, p4, p5⟩ := HR.out w1 hb1) | (go_at_call 37; refine (HCO.out w1 hb1 H1.out H8.out).mono ?_; rintro en w2 ⟨rfl, hb2⟩; have hb2' := hb1.trans (hb2.mono hb1.size); obtain ⟨q0, q1, q2, q3, q4, q5⟩ := HR.out w2 hb2') | (go_at_call 38; refine (HCN.out w2 hb2').mono ?_; rintro en w3 ⟨rfl, hb3⟩; have hb3' := hb2'.trans (hb3.mono hb2'.size); obtain ⟨r0, r1, r2, r3, r4, r5⟩ := HR.out w3 hb3') | (go_at_call 40; refine (HKE.out w3 hb3' (by trivial)).mono ?_; rintro en w4 ⟨rfl, hb4⟩; have hb4' := hb3'.trans (hb4.mono hb3'.size)))
    go_ret
    exact ⟨ret_int HF.out.symm, HW.out _ hb4'⟩
  · have HF := Lib.hid (show out = 0 from by rw [HO3.out]; simp)
    go_wp2_with (first | (go_at_call 34; refine (variable_any _ _).mono ?_; rintro en w' ⟨rfl, rfl⟩) | (go_at_call 36; refine HNU0.out.mono ?_; rintro en w1 ⟨rfl, hb1⟩; obtain ⟨p0, p1, p2, p3, p4, p5⟩ := HR.out w1 hb1) | (go_at_call 37; refine (HCO.out w1 hb1 H1.out H8.out).mono ?_; rintro en w2 ⟨rfl, hb2⟩; have hb2' := hb1.trans (hb2.mono hb1.size); obtain ⟨q0, q1, q2, q3, q4, q5⟩ := HR.out w2 hb2') | (go_at_call 38; refine (HCN.out w2 hb2').mono ?_; rintro en w3 ⟨rfl, hb3⟩; have hb3' := hb2'.trans (hb3.mono hb2'.size); obtain ⟨r0, r1, r2, r3, r4, r5⟩ := HR.out w3 hb3') | (go_at_call 40; refine (HKE.out w3 hb3' (by trivial)).mono ?_; rintro en w4 ⟨rfl, hb4⟩; have hb4' := hb3'.trans (hb4.mono hb3'.size)))
    go_ret
    exact ⟨ret_int HF.out.symm, HW.out _ hb4'⟩
end
end Go.Proofs.YtllakbiipdcboaaDoor

/-
  anf.Right: what is wrong first with a term.
-/
set_option linter.unusedVariables false
set_option linter.unusedSimpArgs false
namespace Go.Proofs.YtllakbiipdcboaaDoor
open Go.RowKit Go.Shelf

attribute [local go_sem] Oper.semAt_some

theorem firstE_snoc (l : List (Int × Part)) (x : Int × Part) (a : Int) (h : firstE a l = 0) : firstE a (l ++ [x]) = partE (a + l.length) x := by
  induction l generalizing a with
  | nil => simp [firstE]; intro h; exact h.symm
  | cons y l ih =>
    simp only [firstE, List.cons_append, List.length_cons] at h ⊢
    by_cases hy : partE a y = 0
    · rw [if_neg (by simp [hy])] at h ⊢
      rw [ih _ h]; congr 1; push_cast; omega
    · rw [if_pos hy] at h; exact absurd h hy
theorem firstE_prefix {l m : List (Int × Part)} (h : l <+: m) {a : Int} (hl : firstE a l ≠ 0) : firstE a m = firstE a l := by
  obtain ⟨r, rfl⟩ := h
  induction l generalizing a with
  | nil => simp [firstE] at hl
  | cons y l ih =>
    simp only [firstE, List.cons_append] at hl ⊢
    by_cases hy : partE a y = 0
    · rw [if_neg (by simp [hy])] at hl ⊢
      rw [if_neg (by simp [hy]), ih hl]
    · rw [if_pos hy, if_pos hy]
theorem firstE_le (l : List (Int × Part)) (a : Int) (ha : 0 ≤ a ∧ a ≤ 65536) (h : firstE a l = 0) : a + l.length ≤ 65536 := by
  induction l generalizing a with
  | nil => simp; omega
  | cons y l ih =>
    simp only [firstE, List.length_cons] at h ⊢
    by_cases hy : partE a y = 0
    · rw [if_neg (by simp [hy])] at h
      have ha' : a < 65536 := by
        rcases Int.lt_or_le a 65536 with h' | h'
        · exact h'
        · unfold partE at hy; rw [if_pos h'] at hy; simp at hy
      have := ih (a + 1) (by omega) h
      push_cast at this ⊢; omega
    · rw [if_pos hy] at h; exact absurd h hy

theorem shapes_at {B : Nat} {W : World} (h : ShapesIn B W) (hB : B ≤ W.heap.size) : ShapesIn W.heap.size W := ⟨Nat.lt_of_lt_of_le h.lt hB, h.w0, h.w1, h.w2⟩
theorem partE_long {a : Int} {d : Int} {q : Part} (h : 65536 ≤ a) : partE a (d, q) = 4 := by unfold partE; rw [if_pos h]
theorem partE_deep {a : Int} {d : Int} {q : Part} (h : ¬ 65536 ≤ a) (h2 : 400 < d) : partE a (d, q) = 7 := by unfold partE; rw [if_neg h, if_pos h2]
theorem partE_ret {a : Int} {d : Int} {x : Atm} (h : ¬ 65536 ≤ a) (h2 : ¬ 400 < d) : partE a (d, .ret x) = if atomB x = true then 0 else 2 := by unfold partE; rw [if_neg h, if_neg h2]
theorem partE_bind {a : Int} {d : Int} {x k n : Int} {ats : List Atm} {ks : List Int} {nb : Nat} (h : ¬ 65536 ≤ a) (h2 : ¬ 400 < d) : partE a (d, .bind x k n ats ks nb) = bindE x k n ats ks nb := by unfold partE; rw [if_neg h, if_neg h2]

set_option maxRecDepth 100000 in
set_option maxHeartbeats 4000000 in
theorem right_any {B : Nat} {t : Anf} {v : Array Value} (w : World) (hin : BodyIn B w t v) (hB : B ≤ w.heap.size) (ht : ShapesIn B w) (hh : 1 + (t.hgt : Int) ≤ 60000) :
    Calls Tryd.prog 17 #[.agg v] w fun e w' => e = .returned (.int .i64 (rightA t)) ∧ Below w.heap.size w w' := by
  obtain ⟨A2, n2, d2, k0, n0, rfl⟩ := hin.shape
  refine (callsIn_wide (n := 3)).1 ?_
  refine callsIn_of_wp_marks Tryd.func17 rfl trivial ?_ rfl
  simp only [Tryd.ntmps17, List.size_toArray, List.length_cons, List.length_nil, Nat.reduceAdd, Nat.reduceSub, Array.replicate_succ, Array.replicate_zero, List.push_toArray, List.append_toArray, List.nil_append, List.cons_append]
  gi_wp2_with (refine ⟨trivial, ?_⟩; gi_at_call 21; refine (callsIn_wide.2 (all_any _ rfl _)).mono ?_; rintro e w' ⟨rfl, rfl⟩)
  obtain ⟨WL, hWL⟩ : ∃ WL, ((((w.alloc (Obj.cells #[Value.slice A2 n2 d2, Value.bool k0, Value.int IntKind.i64 n0] 26)).alloc (Obj.cells #[Value.int IntKind.i64 0] 51)).alloc (Obj.cells #[Value.int IntKind.i64 0] 3)).alloc
      (Obj.cells #[Value.slice A2 n2 d2, Value.bool k0, Value.int IntKind.i64 n0] 26)) = WL := ⟨_, rfl⟩
  have hsz : WL.heap.size = w.heap.size + 4 := by rw [← hWL]; simp
  have hbL : Below w.heap.size w WL := by rw [← hWL]; exact ((((Below.refl _ w).alloc (by simp) _).alloc (by simp) _).alloc (by simp <;> omega) _).alloc (by simp <;> omega) _
  have bn : Boxed WL (w.heap.size + 2) 3 (.int .i64 0) := by
    rw [← hWL]; refine Boxed.alloc ?_ _
    have := Boxed.new ((w.alloc (Obj.cells #[Value.slice A2 n2 d2, Value.bool k0, Value.int IntKind.i64 n0] 26)).alloc (Obj.cells #[Value.int IntKind.i64 0] 51)) 3 (.int .i64 0)
    simpa using this
  have br : Boxed WL (w.heap.size + 1) 51 (.int .i64 0) := by
    rw [← hWL]; exact (Boxed.alloc (by have := Boxed.new (w.alloc (Obj.cells #[Value.slice A2 n2 d2, Value.bool k0, Value.int IntKind.i64 n0] 26)) 51 (.int .i64 0); simpa using this) _).alloc _
  have e0 : WL.cell? ⟨w.heap.size + 3, 0, none⟩ = some (.slice A2 n2 d2) := by rw [← hWL, World.cell?_alloc_at _ _ _ _ (by simp)]; rfl
  have e1 : WL.cell? ⟨w.heap.size + 3, 1, none⟩ = some (.bool k0) := by rw [← hWL, World.cell?_alloc_at _ _ _ _ (by simp)]; rfl
  have e2 : WL.cell? ⟨w.heap.size + 3, 2, none⟩ = some (.int .i64 n0) := by rw [← hWL, World.cell?_alloc_at _ _ _ _ (by simp)]; rfl
  rw [hWL]
  clear hWL
  refine wpIn_rangeFunc_ownH rfl (by omega) (gf := 30) (lb := #[.pointer (some ⟨w.heap.size + 3, 0, none⟩)]) rfl trivial enters_all1
    (all_stops hin hh (fun b => b = w.heap.size + 1 ∨ b = w.heap.size + 2) (w.heap.size + 3) WL (fun k hk => by rcases hk with rfl | rfl <;> omega) (by omega) (Stay.of_below (hbL.mono hB)) rfl (by omega) e0 e1 e2 2)
    KpX.trans (fun W l o o' _ h ho _ => KpX.putObj W l o o' h ho) (Below.refl _ _) (fun _ => rfl)
    (fun pre W => ((Boxed W (w.heap.size + 2) 3 (.int .i64 (pre.length : Int)) ∧ Boxed W (w.heap.size + 1) 51 (.int .i64 0)) ∧ firstE 0 (projX pre) = 0) ∧ Below w.heap.size w W)
    (fun c pre W => (c = .ret ∧ Boxed W (w.heap.size + 1) 51 (.int .i64 (firstE 0 (projX pre))) ∧ firstE 0 (projX pre) ≠ 0) ∧ Below w.heap.size w W)
    (OwnFrom.and (OwnFrom.and (OwnFrom.and (Own.from (boxed_own _ _ _) _) (Own.from (boxed_own _ _ _) _)) (ownFrom_pure _ _)) (ownFrom_below (Nat.le_refl _) (by omega)))
    (fun c => OwnFrom.and (OwnFrom.and (ownFrom_pure _ _) (OwnFrom.and (Own.from (boxed_own _ _ _) _) (ownFrom_pure _ _))) (ownFrom_below (Nat.le_refl _) (by omega)))
    ⟨⟨⟨bn, br⟩, rfl⟩, hbL⟩
    (fun x a' W => ∃ Bx : Nat, W.heap[Bx]? = some (.cells x.v 64 (0, 0)) ∧ a' = { tmps := #[.agg #[Value.slice A2 n2 d2, Value.bool k0, Value.int IntKind.i64 n0], .pointer (some ⟨w.heap.size, 0, none⟩), .pointer (some ⟨w.heap.size + 1, 0, none⟩), .pointer (some ⟨w.heap.size + 1 + 1, 0, none⟩), .int .i64 x.d, .pointer (some ⟨Bx, 0, none⟩), undef,
        .agg #[Value.slice A2 n2 d2, Value.bool k0, Value.int IntKind.i64 n0], .func (.func 30) #[] #[.pointer (some ⟨w.heap.size + 1 + 1 + 1, 0, none⟩)], .int .i64 x.d, .agg x.v, undef, undef, undef, undef, undef, undef, undef, undef, undef, undef, undef, undef, undef, undef, undef, undef, undef, undef, undef, undef, undef, undef, undef, undef, undef, undef, undef], defers := [] })
    (fun x a' u A C row ⟨Bx, h2, h3⟩ hgr hr => ⟨Bx, (hgr.block Bx (Array.getElem?_eq_some_iff.1 h2).1 (fun e => by obtain ⟨_, o, ho, hc⟩ := hr Bx e.symm; rw [h2] at ho; cases ho; cases hc)).trans h2, h3⟩)
    ?assign ?body ?done ?stop
  case assign =>
    rintro l pre ⟨d, q, v, hq, hd⟩ W K ⟨⟨⟨bn', br'⟩, hf⟩, hbW⟩ hK
    cases hq with
    | bind ha hac hk hkc hl8 hlc =>
      gi_wp2
      exact hK _ _ ((KeepsOthers.alloc _ _).from _) (KpX.alloc _ _ _) ⟨⟨⟨bn'.alloc _, br'.alloc _⟩, hf⟩, hbW.alloc hbW.size _⟩ ⟨W.heap.size, World.alloc_heap_new W _, rfl⟩
    | ret a =>
      gi_wp2
      exact hK _ _ ((KeepsOthers.alloc _ _).from _) (KpX.alloc _ _ _) ⟨⟨⟨bn'.alloc _, br'.alloc _⟩, hf⟩, hbW.alloc hbW.size _⟩ ⟨W.heap.size, World.alloc_heap_new W _, rfl⟩
  case body =>
    rintro l pre ⟨d, q, v, hq, hd⟩ a' W hl hr ⟨⟨⟨bn', br'⟩, hf⟩, hbW⟩ ⟨Bx, hx, rfl⟩ hlen
    dsimp only at hx ⊢
    have hws := hbW.size
    have hle := firstE_le (projX pre) 0 (by omega) hf
    rw [projX_length] at hle
    have hst : Stay B w W := Stay.of_below (hbW.mono hB)
    have hsn := firstE_snoc (projX pre) (d, q) 0 hf
    have hpr : projX (pre ++ [(⟨d, q, v, hq, hd⟩ : PartX B w)]) = projX pre ++ [(d, q)] := by simp [projX]
    rw [← hpr] at hsn
    simp only [projX_length, Int.zero_add] at hsn
    obtain ⟨NP, hNP⟩ : ∃ NP : List (PartX B w), NP = pre ++ [(⟨d, q, v, hq, hd⟩ : PartX B w)] := ⟨_, rfl⟩
    rw [← hNP] at hsn ⊢
    have hNl : (NP.length : Int) = pre.length + 1 := by rw [hNP]; simp
    have HL := Lib.hid hNl
    have r1 := bn'.cell
    have r2 := bn'.frozen
    have r3 := br'.cell
    have r4 := br'.frozen
    have HC := Lib.hid (fun (W1 : World) (hb1 : Below W.heap.size W W1) => (show W1.cell? ⟨w.heap.size + 1 + 1, 0, none⟩ = some (.int .i64 (pre.length : Int)) ∧ W1.frozen? ⟨w.heap.size + 1 + 1, 0, none⟩ = false ∧ W1.cell? ⟨w.heap.size + 1, 0, none⟩ = some (.int .i64 0) ∧ W1.frozen? ⟨w.heap.size + 1, 0, none⟩ = false ∧ W1.heap[Bx]? = some (.cells v 64 (0, 0)) from
      ⟨(hb1.cell (p := ⟨_, _, none⟩) (by show _ + 1 + 1 < _; have := bn'.lt; omega)).trans r1, (hb1.frozen (p := ⟨_, _, none⟩) (by show _ + 1 + 1 < _; have := bn'.lt; omega)).trans r2, (hb1.cell (p := ⟨_, _, none⟩) (by show _ + 1 < _; have := br'.lt; omega)).trans r3, (hb1.frozen (p := ⟨_, _, none⟩) (by show _ + 1 < _; have := br'.lt; omega)).trans r4, (hb1.block _ (Array.getElem?_eq_some_iff.1 hx).1).trans hx⟩))
    -- an error: what is done
    have HBAD := Lib.hid (fun (W1 : World) (hb1 : Below W.heap.size W W1) (e0 : Int) (h0 : firstE 0 (projX NP) = e0) (hne : e0 ≠ 0) =>
      (show KeepsFrom WL.heap.size W (W1.setCell ⟨w.heap.size + 1, 0, none⟩ (.int .i64 e0)) ∧ (Boxed (W1.setCell ⟨w.heap.size + 1, 0, none⟩ (.int .i64 e0)) (w.heap.size + 1) 51 (.int .i64 (firstE 0 (projX NP))) ∧ firstE 0 (projX NP) ≠ 0) ∧ Below w.heap.size w (W1.setCell ⟨w.heap.size + 1, 0, none⟩ (.int .i64 e0)) from
        ⟨((keepsOthers_of_below hb1).trans (KeepsOthers.setCell _ _ _)).from _, ⟨by rw [h0]; exact (boxed_below br' hb1).set (.int .i64 e0), by rw [h0]; exact hne⟩, (below_then hbW hws hb1).setCell (p := ⟨_, _, none⟩) (by show _ ≤ _ + 1; omega) _⟩))
    -- all right: what is done
    have HGOOD := Lib.hid (fun (W1 : World) (hb1 : Below W.heap.size W W1) (h0 : firstE 0 (projX NP) = 0) =>
      (show KeepsFrom WL.heap.size W (W1.setCell ⟨w.heap.size + 1 + 1, 0, none⟩ (.int .i64 ((pre.length : Int) + 1))) ∧ KpX (fun b => b = w.heap.size + 1 ∨ b = w.heap.size + 2) W (W1.setCell ⟨w.heap.size + 1 + 1, 0, none⟩ (.int .i64 ((pre.length : Int) + 1))) ∧ ((Boxed (W1.setCell ⟨w.heap.size + 1 + 1, 0, none⟩ (.int .i64 ((pre.length : Int) + 1))) (w.heap.size + 2) 3 (.int .i64 (NP.length : Int)) ∧ Boxed (W1.setCell ⟨w.heap.size + 1 + 1, 0, none⟩ (.int .i64 ((pre.length : Int) + 1))) (w.heap.size + 1) 51 (.int .i64 0)) ∧ firstE 0 (projX NP) = 0) ∧ Below w.heap.size w (W1.setCell ⟨w.heap.size + 1 + 1, 0, none⟩ (.int .i64 ((pre.length : Int) + 1))) from
        ⟨((keepsOthers_of_below hb1).trans (KeepsOthers.setCell _ _ _)).from _, (KpX.below hb1).trans (KpX.setCell _ 0 _ (.inr rfl)), ⟨⟨by rw [hNl]; exact (boxed_below bn' hb1).set (.int .i64 ((pre.length : Int) + 1)), (boxed_below br' hb1).other (B' := w.heap.size + 2) (by omega) (.int .i64 ((pre.length : Int) + 1))⟩, h0⟩, (below_then hbW hws hb1).setCell (p := ⟨_, _, none⟩) (by show _ ≤ _ + 1 + 1; omega) _⟩))
    have hd0 := hd.1
    have hd1 := hd.2
    have HSN := Lib.hid hsn
    have HST := Lib.hid hst
    have HBW := Lib.hid hbW
    have hxl : Bx < W.heap.size := (Array.getElem?_eq_some_iff.1 hx).1
    clear hsn hpr hNP hNl hst hf bn' br' hle hl hr hlen hbW hsz
    by_cases hL : 65536 ≤ (pre.length : Int)
    · have HF := Lib.hid (HSN.out.trans (partE_long hL))
      gi_wp2
      obtain ⟨a1, ⟨a2, a3⟩, a4⟩ := HBAD.out W (Below.refl _ _) 4 HF.out (by decide)
      exact ⟨a1, ⟨rfl, a2, a3⟩, a4⟩
    by_cases hD : 400 < d
    · have HF := Lib.hid (HSN.out.trans (partE_deep hL hD))
      gi_wp2
      obtain ⟨a1, ⟨a2, a3⟩, a4⟩ := HBAD.out W (Below.refl _ _) 7 HF.out (by decide)
      exact ⟨a1, ⟨rfl, a2, a3⟩, a4⟩
    have hlen2 : (pre.length : Int) ≤ 65536 := by omega
    cases hq with
    | ret a =>
      have hsn := HSN.out.trans (partE_ret hL hD)
      have x6 : W.cell? ⟨Bx, 6, none⟩ = some (.bool a.v) := by simp [World.cell?, hx]
      have x7 : W.cell? ⟨Bx, 7, none⟩ = some (.int .i64 a.n) := by simp [World.cell?, hx]
      have x8 : W.cell? ⟨Bx, 8, none⟩ = some (.bool true) := by simp [World.cell?, hx]
      have HA := Lib.hid (catom_any a.v a.n W)
      cases hat : atomB a
      · rw [hat] at HA
        have HF := Lib.hid (hsn.trans (by rw [hat]; decide : (if atomB a = true then (0 : Int) else 2) = 2))
        clear hsn hat hx
        gi_wp2_with (refine ⟨trivial, ?_⟩; gi_at_call 22; refine (CallsIn.inRound l (callsIn_wide.2 HA.out)).mono ?_; rintro e W1 ⟨rfl, hb1⟩; obtain ⟨q1, q2, q3, q4, q5⟩ := HC.out W1 hb1; have y8 : W1.cell? ⟨Bx, 8, none⟩ = some (.bool true) := by simp [World.cell?, q5])
        obtain ⟨a1, ⟨a2, a3⟩, a4⟩ := HBAD.out W1 hb1 2 HF.out (by decide)
        exact ⟨a1, ⟨rfl, a2, a3⟩, a4⟩
      · rw [hat] at HA
        have HF := Lib.hid (hsn.trans (by rw [hat]; decide : (if atomB a = true then (0 : Int) else 2) = 0))
        clear hsn hat hx
        gi_wp2_with (refine ⟨trivial, ?_⟩; gi_at_call 22; refine (CallsIn.inRound l (callsIn_wide.2 HA.out)).mono ?_; rintro e W1 ⟨rfl, hb1⟩; obtain ⟨q1, q2, q3, q4, q5⟩ := HC.out W1 hb1; have y8 : W1.cell? ⟨Bx, 8, none⟩ = some (.bool true) := by simp [World.cell?, q5])
        exact HGOOD.out W1 hb1 HF.out
    | @bind bx bk bn ats ks nb Aa Ak Al ca ck cl ha hac hk hkc hl8 hlc =>
      have hsn := HSN.out.trans (partE_bind hL hD)
      have x0 : W.cell? ⟨Bx, 0, none⟩ = some (.int .i64 bx) := by simp [World.cell?, hx]
      have x1 : W.cell? ⟨Bx, 1, none⟩ = some (.int .i64 bk) := by simp [World.cell?, hx]
      have x2 : W.cell? ⟨Bx, 2, none⟩ = some (.int .i64 bn) := by simp [World.cell?, hx]
      have x3 : W.cell? ⟨Bx, 3, none⟩ = some (.slice Aa ats.length ca) := by simp [World.cell?, hx]
      have x4 : W.cell? ⟨Bx, 4, none⟩ = some (.slice Ak ks.length ck) := by simp [World.cell?, hx]
      have x5 : W.cell? ⟨Bx, 5, none⟩ = some (.slice Al nb cl) := by simp [World.cell?, hx]
      have x8 : W.cell? ⟨Bx, 8, none⟩ = some (.bool false) := by simp [World.cell?, hx]
      have hBW := HBW.out.mono hB
      have hBW2 : B ≤ W.heap.size := Nat.le_trans hB hws
      have HN := Lib.hid (bind_any bx bk bn (Al := Al) (nb := nb) (cb := cl) (shapes_at (ht.kept hBW) hBW2) ((ha.below hBW).mono hBW2) hac ((hk.below hBW).mono hBW2) hkc (by omega))
      obtain ⟨e0, he0⟩ : ∃ z, bindE bx bk bn ats ks nb = z := ⟨_, rfl⟩
      rw [he0] at hsn HN
      have HF := Lib.hid hsn
      clear hsn he0 hx ha hk hac hkc hl8 hlc
      generalize ats.length = NA at *
      generalize ks.length = NK at *
      by_cases hz : e0 = 0
      · subst hz
        gi_wp2_with (first | (refine ⟨trivial, ?_⟩; gi_at_call 23; refine (CallsIn.inRound l (callsIn_wide.2 HN.out)).mono ?_; rintro e W1 ⟨rfl, hb1⟩; obtain ⟨q1, q2, q3, q4, q5⟩ := HC.out W1 hb1) | refine ⟨trivial, ?_⟩)
        exact HGOOD.out W1 hb1 HF.out
      · have hz'' : (e0 != 0) = true := by simpa using hz
        have HZ := Lib.hid hz
        clear hz
        gi_wp2_with (first | (refine ⟨trivial, ?_⟩; gi_at_call 23; refine (CallsIn.inRound l (callsIn_wide.2 HN.out)).mono ?_; rintro e W1 ⟨rfl, hb1⟩; obtain ⟨q1, q2, q3, q4, q5⟩ := HC.out W1 hb1) | refine ⟨trivial, ?_⟩)
        obtain ⟨a1, ⟨a2, a3⟩, a4⟩ := HBAD.out W1 hb1 e0 HF.out HZ.out
        exact ⟨a1, ⟨rfl, a2, a3⟩, a4⟩
  case done =>
    rintro D xs W hD hS ⟨⟨⟨bn', br'⟩, hf⟩, hbW⟩ hK
    have r1 := br'.cell
    have r2 := br'.frozen
    have hsz' := hbW.size
    have HF := Lib.hid hf
    have HS := Lib.hid hS
    clear hf hS
    gi_wp2
    have hK2 := (KeepsOthers.setCell W ⟨w.heap.size + 1, 0, none⟩ (.int .i64 0)).same D _ hK rfl
    refine ⟨by simp, .inl ⟨_, _, rfl, run_takeDeferred hK2, ?_⟩⟩
    have br2 := (br'.set (.int .i64 0)).kept (grownBy_putObj' _ D (.deferred none)) (by intro e; cases e; omega)
    have c2 := br2.cell
    refine ⟨.int .i64 0, by simp [results, Tryd.results17, go_sem, c2], ret_int ?_, ?_⟩
    · unfold rightA; rw [← HS.out]; exact HF.out.symm
    · exact (hbW.setCell (p := ⟨_, _, none⟩) (by show _ ≤ _ + 1; omega) _).trans (belowK_b (w := w) (Nat.le_refl _) _ D _ _ (by omega) hK2 rfl rfl)
  case stop =>
    rintro D c pre W hD hS ⟨⟨rfl, br', hf⟩, hbW⟩ hK
    have r1 := br'.cell
    have HF := Lib.hid hf
    have HS := Lib.hid hS
    clear hf hS
    gi_wp2
    refine ⟨by simp, .inl ⟨_, _, rfl, run_takeDeferred hK, ?_⟩⟩
    have br2 := br'.kept (grownBy_putObj' W D (.deferred none)) (by intro e; cases e; omega)
    have c2 := br2.cell
    refine ⟨.int .i64 (firstE 0 (projX pre)), by simp [results, Tryd.results17, go_sem, c2], ret_int ?_, ?_⟩
    · unfold rightA; exact (firstE_prefix HS.out HF.out).symm
    · exact hbW.trans (belowK_b (w := w) (Nat.le_refl _) W D _ _ (by omega) hK rfl rfl)

end Go.Proofs.YtllakbiipdcboaaDoor

/-
  The law's small functions: lists of ints compared; fuel that runs short.
-/
set_option linter.unusedVariables false
set_option linter.unusedSimpArgs false
namespace Go.Proofs.YtllakbiipdcboaaDoor
open Go.RowKit

def BoolPost (b : Bool) (w : World) (e : Ending) (w' : World) : Prop := e = .returned (.bool b) ∧ ∃ n, w' = w.drewN n
theorem drewN_add (w : World) (a b : Nat) : (w.drewN a).drewN b = w.drewN (a + b) := by
  simp [World.drewN, Nat.add_assoc]
def beginsB (a b : List Int) : Bool := decide (b <+: a)
theorem beginsB_short {a b : List Int} (h : a.length < b.length) : beginsB a b = false := by
  simp only [beginsB, decide_eq_false_iff_not]
  intro hp
  have := hp.length_le
  omega
theorem beginsB_no {a b : List Int} {j : Nat} (hj : j < b.length) (hja : j < a.length) (h : nth a j ≠ nth b j) : beginsB a b = false := by
  simp only [beginsB, decide_eq_false_iff_not]
  rintro ⟨r, rfl⟩
  apply h
  rw [nth_eq _ hja, nth_eq _ hj, List.getElem_append_left hj]
theorem beginsB_yes {a b : List Int} (hl : b.length ≤ a.length) (h : ∀ j, j < b.length → nth a j = nth b j) : beginsB a b = true := by
  simp only [beginsB, decide_eq_true_eq]
  have : b = a.take b.length := by
    apply List.ext_getElem
    · simp; omega
    · intro i h1 h2
      have := h i h1
      rw [nth_eq _ (by omega), nth_eq _ h1] at this
      simp [this]
  rw [this]
  exact List.take_prefix _ _

set_option maxRecDepth 100000 in
set_option maxHeartbeats 2000000 in
theorem begins_any {a b : List Int} {A A' : Option Addr} {c c' : Nat} (w : World) (ha : IntsIn w.heap.size w A a) (hb : IntsIn w.heap.size w A' b) :
    Calls Tryd.prog 9 #[.slice A a.length c, .slice A' b.length c'] w (BoolPost (beginsB a b) w) := by
  by_cases hs : a.length < b.length
  · have HB := Lib.hid (beginsB_short hs)
    go_enter Tryd.func9, Tryd.ntmps9
    have hs' : (a.length : Int) < (b.length : Int) := by omega
    go_wp2_with fail
    go_ret
    exact ⟨ret_bool HB.out.symm, 0, rfl⟩
  · have hs' : ¬ (a.length : Int) < (b.length : Int) := by omega
    have h1 := ha.1
    have h2 := hb.1
    have HA := Lib.hid ha
    have HBI := Lib.hid hb
    clear ha hb
    go_enter Tryd.func9, Tryd.ntmps9
    go_wp2_with fail
    go_loopw [5] (fun i wr => ∃ (j n : Nat), j ≤ b.length ∧ i = .int .i64 (j : Int) ∧ wr = w.drewN n ∧ Hid (∀ q, q < j → nth a q = nth b q)) (fun i _ => b.length + 1 - (intOf i).toNat)
    case atStart => exact ⟨0, 0, by omega, rfl, rfl, Lib.hid (by intro q h; omega)⟩
    case round =>
      obtain ⟨j, n, hj, rfl, rfl, hq⟩ := hrel
      by_cases hlt : j < b.length
      · obtain ⟨ab, ao, rfl, hab, hac⟩ := HA.out.at_ (by omega)
        obtain ⟨bb, bo, rfl, hbb, hbc⟩ := HBI.out.at_ (by omega)
        have ca : w.cell? ⟨ab, ao + j, none⟩ = some (.int .i64 (nth a j)) := hac j (by omega)
        have cb : w.cell? ⟨bb, bo + j, none⟩ = some (.int .i64 (nth b j)) := hbc j (by omega)
        have hj0 : (0 : Int) ≤ (j : Int) := by omega
        have hja : (j : Int) < (a.length : Int) := by omega
        have hjb : (j : Int) < (b.length : Int) := by omega
        clear hac hbc
        by_cases hx : nth a j = nth b j
        · have hx' : (nth a j == nth b j) = true := by simpa using hx
          have hq' : Hid (∀ q, q < j + 1 → nth a q = nth b q) := Lib.hid (fun q hlt' => by
            by_cases h : q = j
            · subst h; exact hx
            · exact hq.out q (by omega))
          clear hx
          generalize nth a j = x at *
          generalize nth b j = y at *
          obtain rfl : x = y := by simpa using hx'
          go_wp2_with fail
          go_quiet (fail)
          go_wp2_with fail
          go_roundw
          case rel => exact ⟨j + 1, _, by omega, by go_num, rfl, hq'⟩
          case measure => simp [intOf]; omega
        · have hx' : (nth a j == nth b j) = false := by simpa using hx
          have HB := Lib.hid (beginsB_no hlt (by omega) hx)
          have HXN := Lib.hid hx
          clear hx
          generalize nth a j = x at *
          generalize nth b j = y at *
          go_wp2_with fail
          go_quiet (fail)
          go_wp2_with fail
          go_ret
          exact ⟨ret_bool HB.out.symm, _, drewN_add _ _ _⟩
      · have hjl : ¬ (j : Int) < (b.length : Int) := by omega
        have HB := Lib.hid (beginsB_yes (a := a) (b := b) (by omega) (fun q h => hq.out q (by omega)))
        go_wp2_with fail
        go_ret
        exact ⟨ret_bool HB.out.symm, n, rfl⟩

theorem begins_eq {a b : List Int} (h : a.length = b.length) : beginsB a b = decide (a = b) := by
  simp only [beginsB, decide_eq_decide]
  constructor
  · intro hp; exact (hp.eq_of_length h.symm).symm
  · rintro rfl; exact List.prefix_refl _

set_option maxRecDepth 100000 in
set_option maxHeartbeats 2000000 in
theorem sameInts_any {a b : List Int} {A A' : Option Addr} {c c' : Nat} (w : World) (ha : IntsIn w.heap.size w A a) (hb : IntsIn w.heap.size w A' b) :
    Calls Tryd.prog 16 #[.slice A a.length c, .slice A' b.length c'] w (BoolPost (decide (a = b)) w) := by
  by_cases hs : a.length = b.length
  · have HB := Lib.hid (begins_eq hs)
    have hs' : ((a.length : Int) == (b.length : Int)) = true := by simp [hs]
    have HC := Lib.hid (begins_any (c := c) (c' := c') w ha hb)
    clear ha hb
    generalize a.length = la at *
    generalize b.length = lb at *
    subst hs
    go_enter Tryd.func16, Tryd.ntmps16
    go_wp2_with (go_at_call 9; refine HC.out.mono ?_; rintro e w' ⟨rfl, n, rfl⟩)
    go_ret
    exact ⟨ret_bool HB.out, n, rfl⟩
  · have HB := Lib.hid (show decide (a = b) = false from by simp; intro h; exact hs (by rw [h]))
    have hs' : ((a.length : Int) == (b.length : Int)) = false := by simp; omega
    clear ha hb
    generalize a.length = la at *
    generalize b.length = lb at *
    go_enter Tryd.func16, Tryd.ntmps16
    go_wp2_with fail
    go_ret
    exact ⟨ret_bool HB.out.symm, 0, rfl⟩

/-- an end as a value -/
def EndV (w : World) (pe : PEnd) (v : Value) : Prop := ∃ A c, v = .agg #[.int .i64 pe.kind, .int .i64 pe.n, .slice A pe.out.length c, .int .i64 pe.steps] ∧ IntsIn w.heap.size w A pe.out
theorem EndV.below {w w' : World} {pe : PEnd} {v : Value} (h : EndV w pe v) (hb : Below w.heap.size w w') : EndV w' pe v := by
  obtain ⟨A, c, rfl, hi⟩ := h
  exact ⟨A, c, rfl, (hi.below hb).mono hb.size⟩
def sameE (p q : PEnd) : Bool := decide (p.kind = q.kind ∧ p.n = q.n ∧ p.out = q.out)
def BoolBelow (b : Bool) (w : World) (e : Ending) (w' : World) : Prop := e = .returned (.bool b) ∧ Below w.heap.size w w'

set_option maxRecDepth 100000 in
set_option maxHeartbeats 2000000 in
theorem same_any {p q : PEnd} {v u : Value} (w : World) (hp : EndV w p v) (hq : EndV w q u) : Calls Tryd.prog 8 #[v, u] w (BoolBelow (sameE p q) w) := by
  obtain ⟨A, c, rfl, hi⟩ := hp
  obtain ⟨A', c', rfl, hi'⟩ := hq
  have hb : Below w.heap.size w ((w.alloc (.cells #[.int .i64 p.kind, .int .i64 p.n, .slice A p.out.length c, .int .i64 p.steps] 32)).alloc (.cells #[.int .i64 q.kind, .int .i64 q.n, .slice A' q.out.length c', .int .i64 q.steps] 32)) :=
    ((Below.refl _ _).alloc (Nat.le_refl _) _).alloc (by rw [World.size_alloc]; exact Nat.le_succ _) _
  have HC := Lib.hid (sameInts_any (c := c) (c' := c') _ ((hi.below hb).mono hb.size) ((hi'.below hb).mono hb.size))
  have HB := Lib.hid hb
  clear hi hi' hb
  by_cases h1 : p.kind = q.kind
  · have h1' : (p.kind == q.kind) = true := by simpa using h1
    by_cases h2 : p.n = q.n
    · have h2' : (p.n == q.n) = true := by simpa using h2
      have HS := Lib.hid (show sameE p q = decide (p.out = q.out) from by simp [sameE, h1, h2])
      clear h1 h2
      generalize p.kind = pk at *
      generalize q.kind = qk at *
      generalize p.n = pn at *
      generalize q.n = qn at *
      go_enter Tryd.func8, Tryd.ntmps8
      go_wp2_with (go_at_call 16; refine HC.out.mono ?_; rintro e w' ⟨rfl, n, rfl⟩)
      go_ret
      exact ⟨ret_bool HS.out.symm, below_drewN HB.out n⟩
    · have h2' : (p.n == q.n) = false := by simpa using h2
      have HS := Lib.hid (show sameE p q = false from by simp [sameE, h2])
      clear h1 h2
      go_enter Tryd.func8, Tryd.ntmps8
      go_wp2_with fail
      go_ret
      exact ⟨ret_bool HS.out.symm, HB.out⟩
  · have h1' : (p.kind == q.kind) = false := by simpa using h1
    have HS := Lib.hid (show sameE p q = false from by simp [sameE, h1])
    clear h1
    go_enter Tryd.func8, Tryd.ntmps8
    go_wp2_with fail
    go_ret
    exact ⟨ret_bool HS.out.symm, HB.out⟩

theorem short_any (f : Int) (w : World) : Calls Tryd.prog 7 #[.int .i64 f] w fun e w' => e = .returned (.int .i64 (min f 1500)) ∧ w = w' := by
  go_enter Tryd.func7, Tryd.ntmps7
  go_wp2_with fail
  all_goals
    go_ret
    exact ⟨ret_int (by omega), rfl⟩
end Go.Proofs.YtllakbiipdcboaaDoor
