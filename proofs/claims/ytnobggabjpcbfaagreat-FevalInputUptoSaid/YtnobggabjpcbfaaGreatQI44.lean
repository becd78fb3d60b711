/-
 1 texts of this seat in one: S10.
-/
import Derived.Test.YtnobggabjpcbfaaGreatQI43
set_option maxRecDepth 100000
set_option maxHeartbeats 16000000
set_option linter.unusedVariables false
set_option linter.unusedSimpArgs false
namespace Go.Proofs.YtnobggabjpcbfaaGreat
open Go.RowKit Go.Maps
mutual
def dpN : Anf → Nat
 | .ret _ => 0
 | .bind _ _ _ _ _ bl r => max (dpL bl) (dpN r)
def dpL : List Anf → Nat
 | [] => 0
 | c :: cs => max (dpN c + 1) (dpL cs)
end
theorem dpL_drop : ∀ {bl : List Anf} {q : Nat} (hq : q < bl.length), dpL (bl.drop q) = max (dpN bl[q] + 1) (dpL (bl.drop (q + 1)))
 | c :: cs, 0, _ => by simp [dpL]
 | c :: cs, q + 1, hq => by
  have := dpL_drop (bl := cs) (q := q) (by simpa using hq)
  simpa using this
mutual
theorem dpN_le : ∀ t : Anf, dpN t ≤ totA t
 | .ret _ => by simp [dpN, totA]
 | .bind _ _ _ _ _ bl r => by
  have h1 := dpL_le bl
  have h2 := dpN_le r
  simp only [dpN, totA]
  omega
theorem dpL_le : ∀ l : List Anf, dpL l ≤ totL l + 1
 | [] => by simp [dpL, totL]
 | c :: cs => by
  have h1 := dpN_le c
  have h2 := dpL_le cs
  simp only [dpL, totL]
  omega
end
theorem totA_tail : ∀ (t : Anf) (j : Nat), totA (t.tail j) ≤ totA t
 | t, 0 => by rw [Anf.tail_zero]; exact Nat.le_refl _
 | .ret a, j + 1 => Nat.le_refl _
 | .bind _ _ _ _ _ bl r, j + 1 => by
  have := totA_tail r j
  simp only [Anf.tail, totA]
  omega
theorem totL_drop_le (bl : List Anf) : ∀ q, totL (bl.drop q) ≤ totL bl := by
 induction bl with
 | nil => intro q; simp
 | cons c cs ih =>
  intro q
  cases q with
  | zero => simp
  | succ q => have := ih q; simp only [List.drop_succ_cons, totL]; omega
theorem rsize_any {B : Nat} (t : Anf) : ∀ (W : World) (v : Array Value), BodyIn B W t v → B ≤ W.heap.size → totA t ≤ 1000000000 →
 Calls Tryz.prog 42 #[.agg v] W fun e w' => e = .returned (.int .i64 ((totA t : Nat) : Int)) ∧ Below W.heap.size W w' := by
 induction hs : SizeOf.sizeOf t using Nat.strongRecOn generalizing t with
 | _ sz ih =>
  subst hs
  intro W v hin hBW htot
  obtain ⟨A, c, b, o, rfl, hc, h96, hA, hB⟩ := hin.at_
  obtain ⟨W0, hW0⟩ : ∃ W0, W.alloc (.cells #[.slice A t.len c, .bool t.last.v, .int .i64 t.last.n] 27) = W0 := ⟨_, rfl⟩
  have hb0 : Below W.heap.size W W0 := by rw [← hW0]; exact (Below.refl _ _).alloc (Nat.le_refl _) _
  have hs0 : W.heap.size < W0.heap.size := by rw [← hW0]; simp
  have e0 : W0.cell? ⟨W.heap.size, 0, none⟩ = some (.slice A t.len c) := by rw [← hW0, World.cell?_alloc_at _ _ _ _ rfl]; rfl
  have HBI := Lib.hid (fun (i : Nat) (hi : i < t.len) (V : World) (hV : Below W0.heap.size W0 V) =>
   (show ∃ x k nn ats ks bl Al cl, A = some ⟨b, o, none⟩ ∧ Hid (t.tail i = .bind x k nn ats ks bl (t.tail (i + 1))) ∧ V.cell? ⟨b, o + i * 6 + 1 + 4, none⟩ = some (.slice Al (List.length bl) cl) ∧ (List.length bl) ≤ cl ∧ (List.length bl) * 40 ≤ 140737488351232 ∧
    Hid (∀ j (h : j < (List.length bl)) (V2 : World), Below W0.heap.size W0 V2 → ∃ bb oo A0 n0 c0 r0 r1, Al = some ⟨bb, oo, none⟩ ∧ V2.cell? ⟨bb, oo + j * 3, none⟩ = some (.slice A0 n0 c0) ∧ V2.cell? ⟨bb, oo + j * 3 + 1, none⟩ = some (.bool r0) ∧ V2.cell? ⟨bb, oo + j * 3 + 2, none⟩ = some (.int .i64 r1) ∧
     (totA bl[j] ≤ 1000000000 → Calls Tryz.prog 42 #[.agg #[.slice A0 n0 c0, .bool r0, .int .i64 r1]] V2 fun e w' => e = .returned (.int .i64 ((totA bl[j] : Nat) : Int)) ∧ Below V2.heap.size V2 w')) from by
    obtain ⟨x, k, nn, ats, ks, bl, Aa, ca, Ak, ck, Al, cl, he, hbi⟩ := hB i hi
    have hV0 : Below B W V := (hb0.mono hBW).trans (hV.mono (Nat.le_trans hBW hb0.size))
    refine ⟨x, k, nn, ats, ks, bl, Al, cl, hA (by omega), Lib.hid he, (hV0.cell (p := ⟨_, _, none⟩) hbi.lt).trans hbi.c5, hbi.hlc, hbi.hl8, Lib.hid (fun j hj V2 h2 => ?_)⟩
    obtain ⟨bb, oo, g0, g1, g2, e1, e2, e3, e4, e5, hbd⟩ := hbi.blk j hj
    have hV2 : Below B W V2 := (hb0.mono hBW).trans (h2.mono (Nat.le_trans hBW hb0.size))
    have hbd0 := hbd
    obtain ⟨A0, c0, b0, o0, hv, -⟩ := hbd.at_
    simp only [Array.mk.injEq, List.cons.injEq, and_true] at hv
    obtain ⟨rfl, rfl, rfl⟩ := hv
    refine ⟨bb, oo, A0, _, c0, _, _, e1, (hV2.cell (p := ⟨_, _, none⟩) e2).trans e3, (hV2.cell (p := ⟨_, _, none⟩) e2).trans e4, (hV2.cell (p := ⟨_, _, none⟩) e2).trans e5, fun ht => ?_⟩
    exact ih _ (size_block he (List.getElem_mem hj)) bl[j] rfl V2 _ (hbd0.kept hV2) (Nat.le_trans hBW hV2.size) ht))
  have HB0 := Lib.hid hb0
  have HS0 := Lib.hid hs0
  have HT := Lib.hid (Anf.tail_ret t)
  obtain ⟨FIN, hFIN⟩ : ∃ z : Nat, totA t = z := ⟨_, rfl⟩
  have HF := Lib.hid (show t.len + subA (t.tail 0) = FIN from by rw [Anf.tail_zero, ← hFIN]; exact subA_len t)
  have HTOT := Lib.hid (show FIN ≤ 1000000000 from by rw [← hFIN]; exact htot)
  rw [hFIN]
  clear ih hB hin hb0 hA hs0 hFIN hBW
  obtain ⟨tl, htl⟩ : ∃ tl, t.len = tl := ⟨_, rfl⟩
  rw [htl] at e0 HBI HT h96 hc hW0 HF ⊢
  have htl8 : tl ≤ 2000000000000 := by omega
  clear h96 htl
  generalize t.last.v = lv at *
  generalize t.last.n = ln at *
  go_enter Tryz.func42, Tryz.ntmps42
  go_wp2_with fail
  go_loopw [3, 4] (fun n i wr => ∃ (j m : Nat), j ≤ tl ∧ i = .int .i64 (j : Int) ∧ n = .int .i64 (m : Int) ∧ Hid (Below W0.heap.size W0 wr) ∧ m ≤ 1000000000 ∧ Hid (m + subA (t.tail j) = FIN)) (fun _ i _ => tl + 1 - (intOf i).toNat)
  case atStart => exact ⟨0, tl, by omega, rfl, rfl, Lib.hid (Below.refl _ _), by have h1 := HF.out; have h2 := HTOT.out; omega, HF⟩
  case round =>
   obtain ⟨wo, rfl⟩ : ∃ wo, wo = wr := ⟨_, rfl⟩
   obtain ⟨j, m, hj, rfl, rfl, hbel, hm3, heq⟩ := hrel
   have q0 := (hbel.out.cell (p := ⟨W.heap.size, 0, none⟩) HS0.out).trans e0
   by_cases hlt : j < tl
   · have hj0 : (0 : Int) ≤ (j : Int) := by omega
     have hjl : (j : Int) < (tl : Int) := by omega
     have hjc : (tl : Int) ≤ (c : Int) := by omega
     obtain ⟨x, k, nn, ats, ks, bl, Al, cl, rfl, htail, s5, l3, l4, HBL⟩ := HBI.out j hlt wo hbel.out
     have HST := Lib.hid (show m + (totL bl + subA (t.tail (j + 1))) = FIN from by have h := heq.out; rw [htail.out] at h; exact h)
     have w3 : IntKind.i64.wrap ((j : Int) + 1) = (j : Int) + 1 := by rw [IntKind.wrap_i64]; omega
     clear heq htail
     go_wp2_with fail
     go_loopw [3, 5] (fun n2 kk wr2 => ∃ (q m2 : Nat), q ≤ bl.length ∧ kk = .int .i64 (q : Int) ∧ n2 = .int .i64 (m2 : Int) ∧ Hid (Below wo.heap.size wo wr2) ∧ m2 ≤ 1000000000 ∧ Hid (m2 + (totL (bl.drop q) + subA (t.tail (j + 1))) = FIN)) (fun _ kk _ => bl.length + 1 - (intOf kk).toNat)
     case atStart => exact ⟨0, m, by omega, rfl, rfl, Lib.hid (Below.refl _ _), hm3, Lib.hid (by rw [List.drop_zero]; exact HST.out)⟩
     case round =>
      obtain ⟨q, m2, hq, rfl, rfl, hbel2, hm5, heq2⟩ := hrel
      have HBW := Lib.hid (hbel.out.trans (hbel2.out.mono hbel.out.size))
      have s5' := cell_behind hbel2.out s5
      have q0' := cell_behind hbel2.out q0
      by_cases hlq : q < bl.length
      · have hq0 : (0 : Int) ≤ (q : Int) := by omega
        have hql : (q : Int) < (bl.length : Int) := by omega
        have hqc : (bl.length : Int) ≤ (cl : Int) := by omega
        obtain ⟨bb, oo, A0, n0, c0', v0, v1, rfl, y0, y1, y2, hC⟩ := HBL.out q hlq wr HBW.out
        have hdr := totL_drop hlq
        have HN := Lib.hid (show m2 + totA bl[q] + (totL (bl.drop (q + 1)) + subA (t.tail (j + 1))) = FIN from by have h1 := heq2.out; rw [hdr] at h1; omega)
        have HC := Lib.hid (hC (by have h1 := heq2.out; have h2 := HTOT.out; rw [hdr] at h1; omega))
        clear hC heq2
        generalize totA bl[q] = nk at *
        have z3 : IntKind.i64.wrap ((q : Int) + 1) = (q : Int) + 1 := by rw [IntKind.wrap_i64]; omega
        clear hdr
        have hm6 : m2 + nk ≤ 1000000000 := by have h1 := HN.out; have h2 := HTOT.out; omega
        have z2 : IntKind.i64.wrap ((m2 : Int) + (nk : Int)) = (m2 : Int) + (nk : Int) := by rw [IntKind.wrap_i64]; omega
        go_wp2_with fail
        refine HC.out.mono ?_
        rintro e w' ⟨rfl, hb2⟩
        have HB5 := Lib.hid (hbel2.out.trans (hb2.mono hbel2.out.size))
        clear hb2 HC
        go_wp2_with fail
        go_roundw
        case rel => exact ⟨q + 1, m2 + nk, by omega, by go_num, by first | rfl | (simp; done) | (congr 1; omega) | (simp; omega), HB5, hm6, HN⟩
        case measure => simp [intOf]; omega
      · have hql : ¬ (q : Int) < (bl.length : Int) := by omega
        have hdr : bl.drop q = [] := List.drop_eq_nil_iff.2 (by omega)
        have HE := Lib.hid (show m2 + subA (t.tail (j + 1)) = FIN from by have h := heq2.out; rw [hdr] at h; simp only [totL, dpL] at h; omega)
        clear heq2 hdr
        go_wp2_with fail
        go_roundw
        case rel => exact ⟨j + 1, m2, by omega, by go_num, rfl, HBW, hm5, HE⟩
        case measure => simp [intOf]; omega
   · have hjl : ¬ (j : Int) < (tl : Int) := by omega
     have HE := Lib.hid (show m + subA (.ret t.last) = FIN from by have h := heq.out; rw [HT.out j (by omega)] at h; exact h)
     clear heq
     have hme : m = FIN := by have h := HE.out; simp only [subA] at h; omega
     subst hme
     go_wp2_with fail
     go_ret
     exact ⟨rfl, HB0.out.trans (hbel.out.mono (Nat.le_of_lt HS0.out))⟩
theorem rdeep_any {B : Nat} (t : Anf) : ∀ (W : World) (v : Array Value), BodyIn B W t v → B ≤ W.heap.size → totA t ≤ 1000000000 →
 Calls Tryz.prog 24 #[.agg v] W fun e w' => e = .returned (.int .i64 (((dpN t + 1) : Nat) : Int)) ∧ Below W.heap.size W w' := by
 induction hs : SizeOf.sizeOf t using Nat.strongRecOn generalizing t with
 | _ sz ih =>
  subst hs
  intro W v hin hBW htot
  obtain ⟨A, c, b, o, rfl, hc, h96, hA, hB⟩ := hin.at_
  obtain ⟨W0, hW0⟩ : ∃ W0, W.alloc (.cells #[.slice A t.len c, .bool t.last.v, .int .i64 t.last.n] 27) = W0 := ⟨_, rfl⟩
  have hb0 : Below W.heap.size W W0 := by rw [← hW0]; exact (Below.refl _ _).alloc (Nat.le_refl _) _
  have hs0 : W.heap.size < W0.heap.size := by rw [← hW0]; simp
  have e0 : W0.cell? ⟨W.heap.size, 0, none⟩ = some (.slice A t.len c) := by rw [← hW0, World.cell?_alloc_at _ _ _ _ rfl]; rfl
  have HBI := Lib.hid (fun (i : Nat) (hi : i < t.len) (V : World) (hV : Below W0.heap.size W0 V) =>
   (show ∃ x k nn ats ks bl Al cl, A = some ⟨b, o, none⟩ ∧ Hid (t.tail i = .bind x k nn ats ks bl (t.tail (i + 1))) ∧ V.cell? ⟨b, o + i * 6 + 1 + 4, none⟩ = some (.slice Al (List.length bl) cl) ∧ (List.length bl) ≤ cl ∧ (List.length bl) * 40 ≤ 140737488351232 ∧
    Hid (∀ j (h : j < (List.length bl)) (V2 : World), Below W0.heap.size W0 V2 → ∃ bb oo A0 n0 c0 r0 r1, Al = some ⟨bb, oo, none⟩ ∧ V2.cell? ⟨bb, oo + j * 3, none⟩ = some (.slice A0 n0 c0) ∧ V2.cell? ⟨bb, oo + j * 3 + 1, none⟩ = some (.bool r0) ∧ V2.cell? ⟨bb, oo + j * 3 + 2, none⟩ = some (.int .i64 r1) ∧
     (totA bl[j] ≤ 1000000000 → Calls Tryz.prog 24 #[.agg #[.slice A0 n0 c0, .bool r0, .int .i64 r1]] V2 fun e w' => e = .returned (.int .i64 (((dpN bl[j] + 1) : Nat) : Int)) ∧ Below V2.heap.size V2 w')) from by
    obtain ⟨x, k, nn, ats, ks, bl, Aa, ca, Ak, ck, Al, cl, he, hbi⟩ := hB i hi
    have hV0 : Below B W V := (hb0.mono hBW).trans (hV.mono (Nat.le_trans hBW hb0.size))
    refine ⟨x, k, nn, ats, ks, bl, Al, cl, hA (by omega), Lib.hid he, (hV0.cell (p := ⟨_, _, none⟩) hbi.lt).trans hbi.c5, hbi.hlc, hbi.hl8, Lib.hid (fun j hj V2 h2 => ?_)⟩
    obtain ⟨bb, oo, g0, g1, g2, e1, e2, e3, e4, e5, hbd⟩ := hbi.blk j hj
    have hV2 : Below B W V2 := (hb0.mono hBW).trans (h2.mono (Nat.le_trans hBW hb0.size))
    have hbd0 := hbd
    obtain ⟨A0, c0, b0, o0, hv, -⟩ := hbd.at_
    simp only [Array.mk.injEq, List.cons.injEq, and_true] at hv
    obtain ⟨rfl, rfl, rfl⟩ := hv
    refine ⟨bb, oo, A0, _, c0, _, _, e1, (hV2.cell (p := ⟨_, _, none⟩) e2).trans e3, (hV2.cell (p := ⟨_, _, none⟩) e2).trans e4, (hV2.cell (p := ⟨_, _, none⟩) e2).trans e5, fun ht => ?_⟩
    exact ih _ (size_block he (List.getElem_mem hj)) bl[j] rfl V2 _ (hbd0.kept hV2) (Nat.le_trans hBW hV2.size) ht))
  have HB0 := Lib.hid hb0
  have HS0 := Lib.hid hs0
  have HT := Lib.hid (Anf.tail_ret t)
  obtain ⟨FIN, hFIN⟩ : ∃ z : Nat, (dpN t + 1) = z := ⟨_, rfl⟩
  have HF := Lib.hid (show max 0 (dpN (t.tail 0)) = FIN - 1 from by rw [Anf.tail_zero, ← hFIN]; simp)
  have HTOT := Lib.hid (show 1 ≤ FIN ∧ FIN ≤ 1000000001 from by rw [← hFIN]; have := dpN_le t; omega)
  have HTA := Lib.hid htot
  have HTJ := Lib.hid (totA_tail t)
  rw [hFIN]
  clear ih hB hin hb0 hA hs0 hFIN hBW
  obtain ⟨tl, htl⟩ : ∃ tl, t.len = tl := ⟨_, rfl⟩
  rw [htl] at e0 HBI HT h96 hc hW0 ⊢
  have htl8 : tl ≤ 2000000000000 := by omega
  clear h96 htl
  generalize t.last.v = lv at *
  generalize t.last.n = ln at *
  go_enter Tryz.func24, Tryz.ntmps24
  go_wp2_with fail
  go_loopw [3, 4] (fun n i wr => ∃ (j m : Nat), j ≤ tl ∧ i = .int .i64 (j : Int) ∧ n = .int .i64 (m : Int) ∧ Hid (Below W0.heap.size W0 wr) ∧ m ≤ 1000000000 ∧ Hid (max m (dpN (t.tail j)) = FIN - 1)) (fun _ i _ => tl + 1 - (intOf i).toNat)
  case atStart => exact ⟨0, 0, by omega, rfl, rfl, Lib.hid (Below.refl _ _), by omega, HF⟩
  case round =>
   obtain ⟨wo, rfl⟩ : ∃ wo, wo = wr := ⟨_, rfl⟩
   obtain ⟨j, m, hj, rfl, rfl, hbel, hm3, heq⟩ := hrel
   have q0 := (hbel.out.cell (p := ⟨W.heap.size, 0, none⟩) HS0.out).trans e0
   by_cases hlt : j < tl
   · have hj0 : (0 : Int) ≤ (j : Int) := by omega
     have hjl : (j : Int) < (tl : Int) := by omega
     have hjc : (tl : Int) ≤ (c : Int) := by omega
     obtain ⟨x, k, nn, ats, ks, bl, Al, cl, rfl, htail, s5, l3, l4, HBL⟩ := HBI.out j hlt wo hbel.out
     have HST := Lib.hid (show max m (max (dpL bl) (dpN (t.tail (j + 1)))) = FIN - 1 from by have h := heq.out; rw [htail.out] at h; exact h)
     have w3 : IntKind.i64.wrap ((j : Int) + 1) = (j : Int) + 1 := by rw [IntKind.wrap_i64]; omega
     have HSZ := Lib.hid (show totL bl ≤ 1000000000 from by have h1 := HTJ.out j; have h2 := HTA.out; rw [htail.out] at h1; simp only [totA] at h1; omega)
     clear heq htail
     go_wp2_with fail
     go_loopw [3, 5] (fun n2 kk wr2 => ∃ (q m2 : Nat), q ≤ bl.length ∧ kk = .int .i64 (q : Int) ∧ n2 = .int .i64 (m2 : Int) ∧ Hid (Below wo.heap.size wo wr2) ∧ m2 ≤ 1000000000 ∧ Hid (max m2 (max (dpL (bl.drop q)) (dpN (t.tail (j + 1)))) = FIN - 1)) (fun _ kk _ => bl.length + 1 - (intOf kk).toNat)
     case atStart => exact ⟨0, m, by omega, rfl, rfl, Lib.hid (Below.refl _ _), hm3, Lib.hid (by rw [List.drop_zero]; exact HST.out)⟩
     case round =>
      obtain ⟨q, m2, hq, rfl, rfl, hbel2, hm5, heq2⟩ := hrel
      have HBW := Lib.hid (hbel.out.trans (hbel2.out.mono hbel.out.size))
      have s5' := cell_behind hbel2.out s5
      have q0' := cell_behind hbel2.out q0
      by_cases hlq : q < bl.length
      · have hq0 : (0 : Int) ≤ (q : Int) := by omega
        have hql : (q : Int) < (bl.length : Int) := by omega
        have hqc : (bl.length : Int) ≤ (cl : Int) := by omega
        obtain ⟨bb, oo, A0, n0, c0', v0, v1, rfl, y0, y1, y2, hC⟩ := HBL.out q hlq wr HBW.out
        have hdr := dpL_drop hlq
        have HQZ := Lib.hid (totL_drop_le bl q)
        have HN := Lib.hid (show max (max m2 (dpN bl[q] + 1)) (max (dpL (bl.drop (q + 1))) (dpN (t.tail (j + 1)))) = FIN - 1 from by have h1 := heq2.out; rw [hdr] at h1; omega)
        have HC := Lib.hid (hC (by have h1 := HSZ.out; have h2 := totL_drop hlq; have h3 := HQZ.out; omega))
        clear hC heq2
        generalize (dpN bl[q] + 1) = nk at *
        have z3 : IntKind.i64.wrap ((q : Int) + 1) = (q : Int) + 1 := by rw [IntKind.wrap_i64]; omega
        clear hdr
        have hm6 : max m2 nk ≤ 1000000000 := by have h1 := HN.out; have h2 := HTOT.out; omega
        have hmx : (max (m2 : Int) (nk : Int)) = ((max m2 nk : Nat) : Int) := by omega
        go_wp2_with fail
        refine HC.out.mono ?_
        rintro e w' ⟨rfl, hb2⟩
        have HB5 := Lib.hid (hbel2.out.trans (hb2.mono hbel2.out.size))
        clear hb2 HC
        go_wp2_with fail
        go_roundw
        case rel => exact ⟨q + 1, max m2 nk, by omega, by go_num, by first | rfl | (simp; done) | (congr 1; omega) | (simp; omega), HB5, hm6, HN⟩
        case measure => simp [intOf]; omega
      · have hql : ¬ (q : Int) < (bl.length : Int) := by omega
        have hdr : bl.drop q = [] := List.drop_eq_nil_iff.2 (by omega)
        have HE := Lib.hid (show max m2 (dpN (t.tail (j + 1))) = FIN - 1 from by have h := heq2.out; rw [hdr] at h; simp only [totL, dpL] at h; simpa using h)
        clear heq2 hdr
        go_wp2_with fail
        go_roundw
        case rel => exact ⟨j + 1, m2, by omega, by go_num, rfl, HBW, hm5, HE⟩
        case measure => simp [intOf]; omega
   · have hjl : ¬ (j : Int) < (tl : Int) := by omega
     have HE := Lib.hid (show max m (dpN (.ret t.last)) = FIN - 1 from by have h := heq.out; rw [HT.out j (by omega)] at h; exact h)
     clear heq
     have hme : m = FIN - 1 := by have h := HE.out; simp only [dpN] at h; omega
     have hmf : ((m : Int) + 1) = (FIN : Int) := by have h := HTOT.out; omega
     have z2 : IntKind.i64.wrap ((m : Int) + 1) = (FIN : Int) := by rw [IntKind.wrap_i64]; omega
     go_wp2_with fail
     go_ret
     exact ⟨ret_int (by have := HTOT.out; omega), HB0.out.trans (hbel.out.mono (Nat.le_of_lt HS0.out))⟩
end Go.Proofs.YtnobggabjpcbfaaGreat
