/-
  4 texts of this seat in one: PK10 PK11 PM1 PB3.
-/
import Derived.Test.YtllakbiipdcboaaDoorQA2
import Derived.Test.YtllakbiipdcboaaDoorQA4
import Derived.Test.YtllakbiipdcboaaDoorQA14
import Derived.Test.YtllakbiipdcboaaDoorQA9
import Derived.Test.YtllakbiipdcboaaDoorQA10
/-
  Flat programs: the statements' Nodes.
-/
set_option linter.unusedVariables false
set_option linter.unusedSimpArgs false
namespace Go.Proofs.YtllakbiipdcboaaDoor
open Go.RowKit

set_option maxRecDepth 100000 in
set_option maxHeartbeats 4000000 in
theorem nodesA_any : ∀ (N : Nat) {t : Anf} {v : Array Value}, SizeOf.sizeOf t < N → ∀ (W : World), BodyIn W.heap.size W t v → ∀ most : Int, -1000 ≤ most → most ≤ 1000 →
    Calls Tryd.prog 10 #[.agg v, .int .i64 most] W fun e w' => e = .returned (.int .i64 (nodesA t most 1)) ∧ Below W.heap.size W w'
  | 0, _, _, h => absurd h (Nat.not_lt_zero _)
  | N + 1, t, v, hsz => by
    intro W hin most hm1 hm2
    have ih := @nodesA_any N
    obtain ⟨A, c, b, o, rfl, hc, h96, hA, hB⟩ := hin.at_
    obtain ⟨W0, hW0⟩ : ∃ W0, W.alloc (.cells #[.slice A t.len c, .bool t.last.v, .int .i64 t.last.n] 26) = W0 := ⟨_, rfl⟩
    have hb0 : Below W.heap.size W W0 := by rw [← hW0]; exact (Below.refl _ _).alloc (Nat.le_refl _) _
    have hs0 : W.heap.size < W0.heap.size := by rw [← hW0]; simp
    have e0 : W0.cell? ⟨W.heap.size, 0, none⟩ = some (.slice A t.len c) := by rw [← hW0, World.cell?_alloc_at _ _ _ _ rfl]; rfl
    have HBI := Lib.hid (fun (i : Nat) (hi : i < t.len) (V : World) (hV : Below W0.heap.size W0 V) =>
      (show ∃ x k n ats ks bl Aa ca Ak ck Al cl, A = some ⟨b, o, none⟩ ∧ b < W.heap.size ∧ Hid (t.tail i = .bind x k n ats ks bl (t.tail (i + 1))) ∧ V.cell? ⟨b, o + i * 6 + 1, none⟩ = some (.int .i64 k) ∧ V.cell? ⟨b, o + i * 6 + 2, none⟩ = some (.int .i64 n) ∧ V.cell? ⟨b, o + i * 6 + 3, none⟩ = some (.slice Aa ats.length ca) ∧ V.cell? ⟨b, o + i * 6 + 4, none⟩ = some (.slice Ak ks.length ck) ∧ V.cell? ⟨b, o + i * 6 + 5, none⟩ = some (.slice Al bl.length cl) ∧ ats.length ≤ 9000000000000 ∧ ks.length ≤ 18000000000000 ∧ bl.length ≤ cl ∧ bl.length ≤ 4000000000000 ∧
        Hid (∀ j (h : j < bl.length) (V2 : World) (h2 : Below V.heap.size V V2), ∃ bb oo A0 n0 c0 r0 r1, Al = some ⟨bb, oo, none⟩ ∧ V2.cell? ⟨bb, oo + j * 3, none⟩ = some (.slice A0 n0 c0) ∧ V2.cell? ⟨bb, oo + j * 3 + 1, none⟩ = some (.bool r0) ∧ V2.cell? ⟨bb, oo + j * 3 + 2, none⟩ = some (.int .i64 r1) ∧
          ∀ m : Int, -1000 ≤ m → m ≤ 1000 → (1 ≤ nodesA bl[j] m 1 ∧ nodesA bl[j] m 1 ≤ max 1 (m + 27000000000000)) ∧ Calls Tryd.prog 10 #[.agg #[.slice A0 n0 c0, .bool r0, .int .i64 r1], .int .i64 m] V2 fun e w' => e = .returned (.int .i64 (nodesA bl[j] m 1)) ∧ Below V2.heap.size V2 w') from by
        obtain ⟨x, k, n, ats, ks, bl, Aa, ca, Ak, ck, Al, cl, he, hbi⟩ := hB i hi
        have hV0 : Below W.heap.size W V := hb0.trans (hV.mono hb0.size)
        have ha := hbi.ha.1
        have hk := hbi.hk.1
        have h8 := hbi.hl8
        refine ⟨x, k, n, ats, ks, bl, Aa, ca, Ak, ck, Al, cl, hA (by omega), hbi.lt, Lib.hid he, (hV0.cell (p := ⟨_, _, none⟩) hbi.lt).trans hbi.c1, (hV0.cell (p := ⟨_, _, none⟩) hbi.lt).trans hbi.c2, (hV0.cell (p := ⟨_, _, none⟩) hbi.lt).trans hbi.c3, (hV0.cell (p := ⟨_, _, none⟩) hbi.lt).trans hbi.c4, (hV0.cell (p := ⟨_, _, none⟩) hbi.lt).trans hbi.c5, by omega, by omega, hbi.hlc, by omega, Lib.hid (fun j hj V2 h2 => ?_)⟩
        obtain ⟨bb, oo, g0, g1, g2, e1, e2, e3, e4, e5, hbd⟩ := hbi.blk j hj
        have hV2 : Below W.heap.size W V2 := hV0.trans (h2.mono hV0.size)
        have hbl : ∀ m, nodesA bl[j] m 1 ≤ max 1 (m + 27000000000000) := fun m => by
          obtain ⟨_, _, _, _, -, -, -, -, h5⟩ := hbd
          exact nodesA_le h5 m 1
        obtain ⟨A0, c0, b0, o0, hv, -⟩ := hbd.at_
        simp only [Array.mk.injEq, List.cons.injEq, and_true] at hv
        obtain ⟨rfl, rfl, rfl⟩ := hv
        refine ⟨bb, oo, A0, _, c0, _, _, e1, (hV2.cell (p := ⟨_, _, none⟩) e2).trans e3, (hV2.cell (p := ⟨_, _, none⟩) e2).trans e4, (hV2.cell (p := ⟨_, _, none⟩) e2).trans e5, fun m k1 k2 => ?_⟩
        have hlt := size_block he (List.getElem_mem hj)
        exact ⟨⟨nodesA_ge _ _ _, hbl m⟩, ih (by omega) V2 ((hbd.kept hV2).mono hV2.size) m k1 k2⟩))
    have HLE := Lib.hid (fun (i : Nat) (m n : Int) => (show nodesA (t.tail i) m n ≤ max n (m + 27000000000000) from by
      obtain ⟨_, _, b1, o1, -, -, -, -, h5⟩ := hin
      exact nodesA_le (h5.from_ i) m n))
    have HB0 := Lib.hid hb0
    have HS0 := Lib.hid hs0
    have HT := Lib.hid (Anf.tail_ret t)
    have HZ := Lib.hid (Anf.tail_zero t)
    clear ih hB hin hb0 hA hs0
    obtain ⟨tl, htl⟩ : ∃ tl, t.len = tl := ⟨_, rfl⟩
    rw [htl] at e0 HBI HT h96 hc hW0 ⊢
    have htl8 : tl ≤ 2000000000000 := by omega
    clear h96 hc hsz htl
    obtain ⟨FIN, hFIN⟩ : ∃ z, nodesA t most 1 = z := ⟨_, rfl⟩
    have HF := Lib.hid hFIN
    rw [hFIN]
    clear hFIN
    generalize t.last.v = lv at *
    generalize t.last.n = ln at *
    go_enter Tryd.func10, Tryd.ntmps10
    go_wp2_with fail
    go_loopw [5, 6, 7, 8] (fun n i _ _ wr => ∃ (j : Nat) (m : Int), j ≤ tl ∧ i = .int .i64 (j : Int) ∧ n = .int .i64 m ∧ Hid (Below W0.heap.size W0 wr) ∧ 1 ≤ m ∧ m ≤ 27000000001000 ∧ Hid (FIN = nodesA (t.tail j) most m)) (fun _ i _ _ _ => tl + 1 - (intOf i).toNat)
    case atStart => exact ⟨0, 1, by omega, rfl, rfl, Lib.hid (Below.refl _ _), by omega, by omega, Lib.hid (by rw [HZ.out, HF.out])⟩
    case round =>
      obtain ⟨wo, rfl⟩ : ∃ wo, wo = wr := ⟨_, rfl⟩
      obtain ⟨j, m, hj, rfl, rfl, hbel, hm3, hm4, heq⟩ := hrel
      have q0 := (hbel.out.cell (p := ⟨W.heap.size, 0, none⟩) HS0.out).trans e0
      by_cases hlt : j < tl
      · have hj0 : (0 : Int) ≤ (j : Int) := by omega
        have hjl : (j : Int) < (tl : Int) := by omega
        by_cases hmm : m < most
        · obtain ⟨x, k, n, ats, ks, bl, Aa, ca, Ak, ck, Al, cl, rfl, hbW, htail, c1, c2, c3, c4, c5, l1, l2, l3, l4, HBL⟩ := HBI.out j hlt wo hbel.out
          have HST := Lib.hid (heq.out.trans (nodesA_step htail.out hmm))
          clear heq htail
          have hal : (1 : Int) + (ats.length : Int) + (ks.length : Int) ≤ 27000000000001 := by omega
          obtain ⟨bn, hbn⟩ : ∃ bn, bl.length = bn := ⟨_, rfl⟩
          rw [hbn] at c5 l3 l4
          have HBN := Lib.hid hbn
          clear hbn
          have hge := nodesLA_ge bl most (m + (1 + ats.length + ks.length))
          have HGE := Lib.hid hge
          clear hge
          generalize ats.length = al at *
          generalize ks.length = kl at *
          obtain ⟨W1, hW1⟩ : ∃ W1, wo.alloc (.cells #[.int .i64 k, .int .i64 n, .slice Aa al ca, .slice Ak kl ck, .slice Al bn cl] 43) = W1 := ⟨_, rfl⟩
          have hb1 : Below wo.heap.size wo W1 := by rw [← hW1]; exact (Below.refl _ _).alloc (Nat.le_refl _) _
          have hs1 : wo.heap.size < W1.heap.size := by rw [← hW1]; simp
          have r2 : W1.cell? ⟨wo.heap.size, 2, none⟩ = some (.slice Aa al ca) := by rw [← hW1, World.cell?_alloc_at _ _ _ _ rfl]; rfl
          have r3 : W1.cell? ⟨wo.heap.size, 3, none⟩ = some (.slice Ak kl ck) := by rw [← hW1, World.cell?_alloc_at _ _ _ _ rfl]; rfl
          have r4 : W1.cell? ⟨wo.heap.size, 4, none⟩ = some (.slice Al bn cl) := by rw [← hW1, World.cell?_alloc_at _ _ _ _ rfl]; rfl
          have w1 : IntKind.i64.wrap (1 + (al : Int)) = 1 + (al : Int) := by rw [IntKind.wrap_i64]; omega
          have w2 : IntKind.i64.wrap (1 + (al : Int) + (kl : Int)) = 1 + (al : Int) + (kl : Int) := by rw [IntKind.wrap_i64]; omega
          have w3 : IntKind.i64.wrap (m + (1 + (al : Int) + (kl : Int))) = m + (1 + (al : Int) + (kl : Int)) := by rw [IntKind.wrap_i64]; omega
          go_wp2_with fail
          go_loopw [5, 8] (fun nn kk wr2 => ∃ (q : Nat) (m2 : Int), q ≤ bn ∧ kk = .int .i64 (q : Int) ∧ nn = .int .i64 m2 ∧ Hid (Below W1.heap.size W1 wr2) ∧ 1 ≤ m2 ∧ m2 ≤ 27000000001000 ∧ Hid (nodesLA bl most (m + (1 + (al : Int) + (kl : Int))) = nodesLA (bl.drop q) most m2)) (fun _ kk _ => bn + 1 - (intOf kk).toNat)
          case atStart => exact ⟨0, m + (1 + (al : Int) + (kl : Int)), by omega, rfl, rfl, Lib.hid (Below.refl _ _), by omega, by omega, Lib.hid (by simp)⟩
          case round =>
            obtain ⟨q, m2, hq, rfl, rfl, hbel2, hn1, hn2, heq2⟩ := hrel
            have x4 := (hbel2.out.cell (p := ⟨wo.heap.size, 4, none⟩) hs1).trans r4
            have hbo : Below wo.heap.size wo wr := hb1.trans (hbel2.out.mono hb1.size)
            have HBO := Lib.hid hbo
            clear hbo
            have q0' := (HBO.out.cell (p := ⟨W.heap.size, 0, none⟩) (Nat.lt_of_lt_of_le HS0.out hbel.out.size)).trans q0
            by_cases hlq : q < bn
            · have hq0 : (0 : Int) ≤ (q : Int) := by omega
              have hql : (q : Int) < (bn : Int) := by omega
              by_cases hmq : m2 < most
              · have hqb : q < bl.length := by rw [HBN.out]; exact hlq
                obtain ⟨bb, oo, A0, n0, c0', v0, v1, rfl, y0, y1, y2, hC⟩ := HBL.out q hqb wr HBO.out
                obtain ⟨⟨hk1, hk2⟩, hC1⟩ := hC (most - m2) (by omega) (by omega)
                have HC := Lib.hid hC1
                have HE := Lib.hid (heq2.out.trans (nodesLA_step hqb hmq))
                clear hC hC1 heq2
                generalize nodesA bl[q] (most - m2) 1 = nk at *
                have z1 : IntKind.i64.wrap (most - m2) = most - m2 := by rw [IntKind.wrap_i64]; omega
                have z2 : IntKind.i64.wrap (m2 + nk) = m2 + nk := by rw [IntKind.wrap_i64]; omega
                have z3 : IntKind.i64.wrap ((q : Int) + 1) = (q : Int) + 1 := by rw [IntKind.wrap_i64]; omega
                go_wp2_with (go_at_call 10; refine HC.out.mono ?_; rintro e w' ⟨rfl, hb2⟩)
                go_roundw
                case rel => exact ⟨q + 1, m2 + nk, by omega, by go_num, by first | rfl | go_num, Lib.hid (hbel2.out.trans (hb2.mono hbel2.out.size)), by omega, by omega, HE.out⟩
                case measure => simp [intOf]; omega
              · have HE := Lib.hid (heq2.out.trans (nodesLA_stop hmq))
                clear heq2
                have z3 : IntKind.i64.wrap ((j : Int) + 1) = (j : Int) + 1 := by rw [IntKind.wrap_i64]; omega
                go_wp2_with fail
                go_roundw
                case rel => exact ⟨j + 1, m2, by omega, by go_num, rfl, Lib.hid (hbel.out.trans (HBO.out.mono hbel.out.size)), by omega, by omega, Lib.hid (by rw [HST.out, HE.out])⟩
                case measure => simp [intOf]; omega
            · have hql : ¬ (q : Int) < (bn : Int) := by omega
              have hdr : bl.drop q = [] := List.drop_eq_nil_iff.2 (by rw [HBN.out]; omega)
              have HE := Lib.hid (heq2.out.trans (by rw [hdr]; rfl : _ = m2))
              clear heq2 hdr
              have z3 : IntKind.i64.wrap ((j : Int) + 1) = (j : Int) + 1 := by rw [IntKind.wrap_i64]; omega
              go_wp2_with fail
              go_roundw
              case rel => exact ⟨j + 1, m2, by omega, by go_num, rfl, Lib.hid (hbel.out.trans (HBO.out.mono hbel.out.size)), by omega, by omega, Lib.hid (by rw [HST.out, HE.out])⟩
              case measure => simp [intOf]; omega
        · have hmn : ¬ (m : Int) < most := hmm
          have HE := Lib.hid (heq.out.trans (nodesA_stop hmm))
          clear heq
          go_wp2_with fail
          go_ret
          exact ⟨ret_int (by rw [HE.out]), HB0.out.trans (hbel.out.mono (Nat.le_of_lt HS0.out))⟩
      · have hjl : ¬ (j : Int) < (tl : Int) := by omega
        have HE := Lib.hid (heq.out.trans (by rw [HT.out j (by omega)]; rfl : _ = m))
        clear heq
        go_wp2_with fail
        go_ret
        exact ⟨ret_int (by rw [HE.out]), HB0.out.trans (hbel.out.mono (Nat.le_of_lt HS0.out))⟩
end Go.Proofs.YtllakbiipdcboaaDoor

/-
  Terms: the statements' Few; a term of few parts is small.
-/
set_option linter.unusedVariables false
set_option linter.unusedSimpArgs false
namespace Go.Proofs.YtllakbiipdcboaaDoor
open Go.RowKit

def fewA (t : Anf) (inp : List Int) : Bool := decide (nodesA t 600 1 < 600 ∧ inp.length ≤ 60)
mutual
theorem hgt_parts : ∀ t : Anf, t.hgt ≤ partsA t + 1
  | .ret _ => by simp [Anf.hgt, partsA]
  | .bind _ _ _ ats ks bl r => by
    have h1 := hgtL_parts bl
    have h2 := hgt_parts r
    simp only [Anf.hgt, partsA]
    omega
theorem hgtL_parts : ∀ l : List Anf, hgtLA l ≤ partsLA l + 1
  | [] => by simp [hgtLA, partsLA]
  | c :: cs => by
    have h1 := hgt_parts c
    have h2 := hgtL_parts cs
    simp only [hgtLA, partsLA]
    omega
end
theorem few_hgt {t : Anf} {inp : List Int} (h : fewA t inp = true) : t.hgt ≤ 600 := by
  simp only [fewA, decide_eq_true_eq] at h
  have h3 := nodesA_all t 600 1 h.1
  have h4 := hgt_parts t
  omega
set_option maxRecDepth 100000 in
set_option maxHeartbeats 1000000 in
theorem fewA_any {t : Anf} {v : Array Value} (W : World) (hin : BodyIn W.heap.size W t v) (inp : List Int) (Ai : Option Addr) (ci : Nat) :
    Calls Tryd.prog 4 #[.agg v, .slice Ai inp.length ci] W fun e w' => e = .returned (.bool (fewA t inp)) ∧ Below W.heap.size W w' := by
  obtain ⟨A0, c0, b0, o0, hv, -⟩ := hin.at_
  subst hv
  generalize t.last.v = lv at *
  generalize t.last.n = ln at *
  obtain ⟨W0, hW0⟩ : ∃ W0, W.alloc (.cells #[.slice A0 t.len c0, .bool lv, .int .i64 ln] 26) = W0 := ⟨_, rfl⟩
  have hb0 : Below W.heap.size W W0 := by rw [← hW0]; exact (Below.refl _ _).alloc (Nat.le_refl _) _
  have e0 : W0.cell? ⟨W.heap.size, 0, none⟩ = some (.slice A0 t.len c0) := by rw [← hW0, World.cell?_alloc_at _ _ _ _ rfl]; rfl
  have e1 : W0.cell? ⟨W.heap.size, 1, none⟩ = some (.bool lv) := by rw [← hW0, World.cell?_alloc_at _ _ _ _ rfl]; rfl
  have e2 : W0.cell? ⟨W.heap.size, 2, none⟩ = some (.int .i64 ln) := by rw [← hW0, World.cell?_alloc_at _ _ _ _ rfl]; rfl
  have HM := Lib.hid (nodesA_any _ (Nat.lt_succ_self _) W0 ((hin.kept hb0).mono hb0.size) 600 (by decide) (by decide))
  have HB0 := Lib.hid hb0
  obtain ⟨FIN, hFIN⟩ : ∃ z, fewA t inp = z := ⟨_, rfl⟩
  rw [hFIN]
  unfold fewA at hFIN
  clear hin hb0
  generalize inp.length = il at *
  generalize nodesA t 600 1 = mn at *
  generalize t.len = tl at *
  have HF := Lib.hid hFIN
  clear hFIN
  by_cases h7 : mn < 600
  · by_cases h6 : il ≤ 60
    · have h6' : (il : Int) ≤ 60 := by omega
      have HR := Lib.hid (show FIN = true from by rw [← HF.out]; simp [h7, h6])
      go_enter Tryd.func4, Tryd.ntmps4
      go_wp2_with (go_at_call 10; refine HM.out.mono ?_; rintro e w1 ⟨rfl, hb1⟩)
      go_ret
      exact ⟨ret_bool HR.out.symm, HB0.out.trans (hb1.mono HB0.out.size)⟩
    · have h6' : ¬ (il : Int) ≤ 60 := by omega
      have HR := Lib.hid (show FIN = false from by rw [← HF.out]; simp [h7, h6])
      go_enter Tryd.func4, Tryd.ntmps4
      go_wp2_with (go_at_call 10; refine HM.out.mono ?_; rintro e w1 ⟨rfl, hb1⟩)
      go_ret
      exact ⟨ret_bool (by rw [HR.out]; simpa using h6'), HB0.out.trans (hb1.mono HB0.out.size)⟩
  · have HR := Lib.hid (show FIN = false from by rw [← HF.out]; simp [h7])
    go_enter Tryd.func4, Tryd.ntmps4
    go_wp2_with (go_at_call 10; refine HM.out.mono ?_; rintro e w1 ⟨rfl, hb1⟩)
    go_ret
    exact ⟨ret_bool HR.out.symm, HB0.out.trans (hb1.mono HB0.out.size)⟩
end Go.Proofs.YtllakbiipdcboaaDoor

/-
  AevalMore: the walk.
-/
set_option linter.unusedVariables false
set_option linter.unusedSimpArgs false
namespace Go.Proofs.YtllakbiipdcboaaDoor
open Go.RowKit

/-- both runs' ends, as the law asks of them -/
theorem more_law (t : Anf) (inp : List Int) (f more : Int) (hm : 0 ≤ more) :
    ((runE t inp (min f 1500)).kind ≠ 3 → sameE (runE t inp (min f 1500)) (runE t inp (max (min f 1500) 0 + min more 1500)) = true ∧ (runE t inp (min f 1500)).steps = (runE t inp (max (min f 1500) 0 + min more 1500)).steps) ∧
    ((runE t inp (min f 1500)).kind = 3 → beginsB (runE t inp (max (min f 1500) 0 + min more 1500)).out (runE t inp (min f 1500)).out = true ∧ (runE t inp (min f 1500)).steps ≤ (runE t inp (max (min f 1500) 0 + min more 1500)).steps ∧
      ((runE t inp (min f 1500)).steps : Int) = max (min f 1500) 0) := by
  unfold runE
  by_cases hr : rightA t = 0
  · rw [if_pos hr, if_pos hr]
    have h1 := fuelOf_int (min f 1500)
    have h2 := fuelOf_int (max (min f 1500) 0 + min more 1500)
    have hle : fuelOf (min f 1500) ≤ fuelOf (max (min f 1500) 0 + min more 1500) := by omega
    obtain ⟨ha, hb⟩ := moreF_ends (funs := []) (t := t) (inp := inp.take 4096) hle
    unfold runF
    constructor
    · intro hk
      rw [ha hk]
      exact ⟨by simp [sameE], rfl⟩
    · intro hk
      obtain ⟨h3, h4, h5⟩ := hb hk
      exact ⟨by simp only [beginsB, decide_eq_true_eq]; exact h3, h4, by rw [h5]; omega⟩
  · rw [if_neg hr, if_neg hr]
    exact ⟨fun _ => ⟨by simp [sameE], rfl⟩, fun h => by simp at h⟩

set_option maxRecDepth 100000 in
set_option maxHeartbeats 4000000 in
theorem more_guard {t : Anf} {v : Array Value} (W : World) (hr : Ready W) (hin : BodyIn W.heap.size W t v) (inp : List Int) (Ai : Option Addr) (ci : Nat) (f more : Int) (hg : fewA t inp = false ∨ more < 0) :
    Calls Tryd.prog 3 #[.agg v, .slice Ai inp.length ci, .int .i64 f, .int .i64 more] W (BoolBelow true W) := by
  obtain ⟨A2, n2, d2, k0, n0, rfl⟩ := hin.shape
  have hb0 : Below W.heap.size W (W.alloc (.cells #[.slice A2 n2 d2, .bool k0, .int .i64 n0] 26)) := (Below.refl _ _).alloc (Nat.le_refl _) _
  have HF := Lib.hid (fewA_any _ (hin.later hb0) inp Ai ci)
  have HB := Lib.hid hb0
  have HR := Lib.hid (hr.below hb0)
  clear hin hb0 hr
  generalize inp.length = L at *
  cases hfw : fewA t inp with
  | false =>
    rw [hfw] at HF
    clear hfw hg
    go_enter Tryd.func3, Tryd.ntmps3
    go_wp2_with fail
    refine HF.out.mono ?_
    rintro e w' ⟨rfl, hb1⟩
    have HK := Lib.hid (knows_any w' (HR.out.below hb1))
    have HB1 := Lib.hid (HB.out.trans (hb1.mono HB.out.size))
    clear hb1
    go_wp2_with (go_at_call 5; refine HK.out.mono ?_; rintro e w2 ⟨rfl, hb2⟩)
    go_ret
    exact ⟨rfl, HB1.out.trans (hb2.mono HB1.out.size)⟩
  | true =>
    rw [hfw] at HF hg
    have hm : more < 0 := by simpa using hg
    clear hfw hg
    go_enter Tryd.func3, Tryd.ntmps3
    go_wp2_with fail
    refine HF.out.mono ?_
    rintro e w' ⟨rfl, hb1⟩
    have HK := Lib.hid (knows_any w' (HR.out.below hb1))
    have HB1 := Lib.hid (HB.out.trans (hb1.mono HB.out.size))
    clear hb1
    go_wp2_with (go_at_call 5; refine HK.out.mono ?_; rintro e w2 ⟨rfl, hb2⟩)
    go_ret
    exact ⟨rfl, HB1.out.trans (hb2.mono HB1.out.size)⟩

set_option maxRecDepth 100000 in
set_option maxHeartbeats 8000000 in
theorem more_walk {t : Anf} {v : Array Value} (W : World) (hr : Ready W) (hin : BodyIn W.heap.size W t v) (inp : List Int) (Ai : Option Addr) (ci : Nat) (hi : IntsIn W.heap.size W Ai inp) (hci : inp.length ≤ ci) (f more : Int) (hf : fewA t inp = true) (hm : 0 ≤ more) :
    Calls Tryd.prog 3 #[.agg v, .slice Ai inp.length ci, .int .i64 f, .int .i64 more] W (BoolBelow true W) := by
  obtain ⟨A2, n2, d2, k0, n0, rfl⟩ := hin.shape
  have hsm : t.hgt ≤ 50000 := by have := few_hgt hf; omega
  obtain ⟨sf, hsf⟩ : ∃ sf, min f 1500 = sf := ⟨_, rfl⟩
  have hlaw := more_law t inp f more hm
  rw [hsf] at hlaw
  obtain ⟨W0, hW0⟩ : ∃ W0, W.alloc (.cells #[.slice A2 n2 d2, .bool k0, .int .i64 n0] 26) = W0 := ⟨_, rfl⟩
  have hb0 : Below W.heap.size W W0 := by rw [← hW0]; exact (Below.refl _ _).alloc (Nat.le_refl _) _
  have hs0 : W.heap.size < W0.heap.size := by rw [← hW0]; simp
  have h00 : W0.heap[W.heap.size]? = some (.cells #[.slice A2 n2 d2, .bool k0, .int .i64 n0] 26 (0, 0)) := by rw [← hW0]; exact World.alloc_heap_new W _
  have HF := Lib.hid (fewA_any W0 (hin.later hb0) inp Ai ci)
  rw [hf] at HF
  have hrun := fun (g : Int) (V : World) (hV : Below W0.heap.size W0 V) => run_ready (hr.below (hb0.trans (hV.mono (Nat.le_of_lt hs0)))) (hin.later (hb0.trans (hV.mono (Nat.le_of_lt hs0)))) hsm (((hi.below hb0).below (hV.mono (Nat.le_of_lt hs0))).mono (Nat.le_trans (Nat.le_of_lt hs0) hV.size)) hci g
  have hS := fun (V : World) (hV : Below W0.heap.size W0 V) => (show V.cell? ⟨W.heap.size, 0, none⟩ = some (.slice A2 n2 d2) ∧ V.cell? ⟨W.heap.size, 1, none⟩ = some (.bool k0) ∧ V.cell? ⟨W.heap.size, 2, none⟩ = some (.int .i64 n0) from by
    have h := (hV.block W.heap.size hs0).trans h00
    simp [World.cell?, h])
  have HSH := Lib.hid (fun (V : World) => (show Calls Tryd.prog 7 #[.int .i64 f] V fun e w' => e = .returned (.int .i64 sf) ∧ V = w' from hsf ▸ short_any f V))
  have hsf2 : sf ≤ 1500 := by omega
  obtain ⟨mx, hmx⟩ : ∃ mx : Int, (if sf < 0 then (0 : Int) else sf) = mx := ⟨_, rfl⟩
  obtain ⟨mn, hmn⟩ : ∃ mn : Int, (if 1500 < more then (1500 : Int) else more) = mn := ⟨_, rfl⟩
  have hmx1 : max sf 0 = mx := by rw [← hmx]; split <;> omega
  have hmn1 : min more 1500 = mn := by rw [← hmn]; split <;> omega
  have hsum : max sf 0 + min more 1500 = mx + mn := by rw [hmx1, hmn1]
  rw [hsum] at hlaw
  have hmb : 0 ≤ mx ∧ mx ≤ 1500 ∧ 0 ≤ mn ∧ mn ≤ 1500 := by omega
  have hwr : IntKind.i64.wrap (mx + mn) = mx + mn := by rw [IntKind.wrap_i64]; omega
  have HTAIL := Lib.hid (fun (V3 : World) (X9 : Nat) (hV : Below W0.heap.size W0 V3) (he : EndAt V3 X9 (runE t inp sf)) (y0 y5 y6 y7 y8 y10 y11 y12 y13 y14 y15 y16 y17 y18 y19 y20 y21 y22 y23 y24 y25 y26 y27 y28 y29 y30 y31 y32 y33 y34 y35 y36 y37 y38 y39 y40 y41 y42 y43 y44 y45 y46 y47 y48 y49 y50 y51 y52 y53 y54 y55 y56 y57 y58 y59 y60 y61 y62 y63 y64 y65 y66 y67 y68 y69 y70 y71 y72 : Value) =>
    (show moreTail4.wp Tryd.prog (bodyPost Tryd.prog Tryd.f3 (BoolBelow true W)) { tmps := #[y0, .slice Ai inp.length ci, .int .i64 f, .int .i64 more, .pointer (some ⟨W.heap.size, 0, none⟩), y5, y6, y7, y8, .pointer (some ⟨X9, 0, none⟩), y10, y11, y12, y13, y14, y15, y16, y17, y18, y19, y20, y21, y22, y23, y24, y25, y26, y27, y28, y29, y30, y31, y32, y33, y34, y35, y36, y37, y38, y39, y40, y41, y42, y43, y44, y45, y46, y47, y48, y49, y50, y51, y52, y53, y54, y55, y56, y57, y58, y59, y60, y61, y62, y63, y64, y65, y66, y67, y68, y69, y70, y71, y72], defers := [] } V3 from
      more_tail4 (hb0.trans (hV.mono (Nat.le_of_lt hs0))) (hr.below (hb0.trans (hV.mono (Nat.le_of_lt hs0)))) he f more sf mx mn hsf hlaw (fun V2 h2 => hS V2 (hV.trans (h2.mono hV.size))) (fun V2 h2 => hrun (mx + mn) V2 (hV.trans (h2.mono hV.size))) hmx hmn hwr _ _ _ _ _ _ _ _ _ _ _ _ _ _ _ _ _ _ _ _ _ _ _ _ _ _ _ _ _ _ _ _ _ _ _ _ _ _ _ _ _ _ _ _ _ _ _ _ _ _ _ _ _ _ _ _ _ _ _ _ _ _ _ _ _ _ _ _))
  have HRUN := Lib.hid (hrun sf)
  have HS := Lib.hid hS
  have HB0 := Lib.hid hb0
  clear hmx1 hmn1 hsum hmb hwr hmx hmn hrun hS
  clear hin hb0 hs0 h00 hr hi hlaw hsf hf hsm
  generalize inp.length = L at *
  obtain ⟨y0, y1, y2⟩ := HS.out W0 (Below.refl _ _)
  go_enter Tryd.func3, Tryd.ntmps3
  go_wp2_with fail
  refine HF.out.mono ?_
  rintro e w1 ⟨rfl, hb1⟩
  obtain ⟨z0, z1, z2⟩ := HS.out w1 hb1
  have HB1 := Lib.hid hb1
  clear hb1
  go_wp2_with fail
  have D1 := Lib.hid (show Below W0.heap.size W0 w1.drew from HB1.out.drew)
  have D2 := Lib.hid (show Below W0.heap.size W0 (w1.alloc (.cells #[.int .i64 0, .int .i64 0, .slice none 0 0, .int .i64 0] 32)).drew from (HB1.out.alloc HB1.out.size _).drew)
  have HE9 := Lib.hid (fun (V2 : World) (hb : Below (w1.alloc (.cells #[.int .i64 0, .int .i64 0, .slice none 0 0, .int .i64 0] 32)).drew.heap.size (w1.alloc (.cells #[.int .i64 0, .int .i64 0, .slice none 0 0, .int .i64 0] 32)).drew V2) => (show V2.cell? ⟨w1.heap.size, 0, none⟩ = some (.int .i64 0) ∧ V2.cell? ⟨w1.heap.size, 1, none⟩ = some (.int .i64 0) ∧ V2.cell? ⟨w1.heap.size, 2, none⟩ = some (.slice none 0 0) ∧ V2.cell? ⟨w1.heap.size, 3, none⟩ = some (.int .i64 0) ∧ ∀ i, V2.frozen? ⟨w1.heap.size, i, none⟩ = false from by
    have h := end_zero w1 V2 hb
    exact ⟨by simp [World.cell?, h], by simp [World.cell?, h], by simp [World.cell?, h], by simp [World.cell?, h], fun i => by simp [World.frozen?, h]⟩))
  have HR1 := Lib.hid (HRUN.out _ D1.out)
  have HR2 := Lib.hid (HRUN.out _ D2.out)
  go_region_held2 (fun V => V.cell? ⟨W.heap.size, 0, none⟩ = some (.slice A2 n2 d2) ∧ V.cell? ⟨W.heap.size, 1, none⟩ = some (.bool k0) ∧ V.cell? ⟨W.heap.size, 2, none⟩ = some (.int .i64 n0))
    (first | exact HS.out _ D1.out | exact HS.out _ D2.out | exact HS.out _ (D1.out.trans (hb2.mono D1.out.size)) | exact HS.out _ (D2.out.trans (hb2.mono D2.out.size)) | exact HS.out _ ((D1.out.trans (hb2.mono D1.out.size)).alloc (Nat.le_trans D1.out.size hb2.size) _) | exact HS.out _ (((((D2.out.trans (hb2.mono D2.out.size)).setCell (p := ⟨_, _, none⟩) HB1.out.size _).setCell (p := ⟨_, _, none⟩) HB1.out.size _).setCell (p := ⟨_, _, none⟩) HB1.out.size _).setCell (p := ⟨_, _, none⟩) HB1.out.size _))
    ((first
      | (go_at_call 7; refine (HSH.out _).mono ?_; rintro en w' ⟨rfl, rfl⟩)
      | (go_at_call 6; (with_reducible refine HR2.out.mono ?_); rintro en w2 ⟨v, A, c, rfl, rfl, hE, hb2, hlo⟩; obtain ⟨e90, e91, e92, e93, e9f⟩ := HE9.out _ hb2)
      | (go_at_call 6; (with_reducible refine HR1.out.mono ?_); rintro en w2 ⟨v, A, c, rfl, rfl, hE, hb2, hlo⟩)))
  all_goals
    simp only [Exit.then]
    refine (‹∀ (a : Act) (w : World), Code.wp Tryd.prog _ _ a w → _›) _ _ ?_
    first
      | exact HTAIL.out _ _ ((D1.out.trans (hb2.mono D1.out.size)).alloc (Nat.le_trans D1.out.size hb2.size) _) (end_new hE) _ _ _ _ _ _ _ _ _ _ _ _ _ _ _ _ _ _ _ _ _ _ _ _ _ _ _ _ _ _ _ _ _ _ _ _ _ _ _ _ _ _ _ _ _ _ _ _ _ _ _ _ _ _ _ _ _ _ _ _ _ _ _ _ _ _ _ _
      | exact HTAIL.out _ _ (((((D2.out.trans (hb2.mono D2.out.size)).setCell (p := ⟨w1.heap.size, 0, none⟩) HB1.out.size _).setCell (p := ⟨w1.heap.size, 1, none⟩) HB1.out.size _).setCell (p := ⟨w1.heap.size, 2, none⟩) HB1.out.size _).setCell (p := ⟨w1.heap.size, 3, none⟩) HB1.out.size _) (end_set hb2 hlo hE) _ _ _ _ _ _ _ _ _ _ _ _ _ _ _ _ _ _ _ _ _ _ _ _ _ _ _ _ _ _ _ _ _ _ _ _ _ _ _ _ _ _ _ _ _ _ _ _ _ _ _ _ _ _ _ _ _ _ _ _ _ _ _ _ _ _ _ _
end Go.Proofs.YtllakbiipdcboaaDoor

/-
  What the claim asks behind the call: true, and the arguments read as they did.
-/
set_option linter.unusedVariables false
set_option linter.unusedSimpArgs false
namespace Go.Proofs.YtllakbiipdcboaaDoor
open Go.ChangeShapes Go.WideShapes Go.RowKit

theorem laidOut : laidOutB Tryd.prog = true := by kernel_rfl

/-- arguments read behind the call as they did -/
theorem args_again {H : Type} {enc : TypeId × Value → H} {W W' : World} (hb : Below W.heap.size W W') : ∀ {ts : List TypeId} {vs : List Value} {ds : List (DataW H)} {ps : List MemPlace} (hts : ∀ t ∈ ts, Tryd.prog.readableRec t = true ∧ t < Tryd.prog.types.size) (h : DataW.TrodAll enc Tryd.prog W 0 (fun _ => true) true ts vs ds ps)
    (hlt : ∀ x ∈ ps, x.block < W.heap.size) (sp : Nat → Bool) (hsp : ∀ x ∈ ps, sp x.block = true), DataW.TrodAll enc Tryd.prog W' 0 sp true ts vs ds ps
  | [], [], [], _, _, h, _, _, _ => h
  | _ :: _, _ :: _, _ :: _, _, hts, ⟨p, q, h1, h2, e⟩, hlt, sp, hsp =>
    ⟨p, q, WideElems.Trod_stays laidOut (hts _ (List.mem_cons_self ..)).1 (hts _ (List.mem_cons_self ..)).2 h1 (fun x hx => hb.same (hlt x (by rw [e]; exact List.mem_append_left _ hx))) (fun x hx => hsp x (by rw [e]; exact List.mem_append_left _ hx)),
      args_again hb (fun t ht => hts t (List.mem_cons_of_mem _ ht)) h2 (fun x hx => hlt x (by rw [e]; exact List.mem_append_right _ hx)) sp (fun x hx => hsp x (by rw [e]; exact List.mem_append_right _ hx)), e⟩

set_option maxRecDepth 100000 in
theorem post_true {H : Type} {enc : TypeId × Value → H} {f : Func} {s : ChangeSpec} {W W' : World} {args : Array Value} {ds : List (DataW H)} {before : List MemPlace} (hts : ∀ t ∈ f.params.toList, Tryd.prog.readableRec t = true ∧ t < Tryd.prog.types.size) (hv : s.vars = [])
    (hW : DataW.Whole enc Tryd.prog f.params.toList s.vars false W args.toList ds [] before) (hs : s.fn H (ds ++ []) = { results := [.lit (.bool true)], args := ds }) (hr : f.resultTypes = #[4]) (hb : Below W.heap.size W W') :
    s.post enc Tryd.prog f false true false false W args (.bool true) W' := by
  have hlt : ∀ x ∈ before, x.block < W.heap.size := fun x hx => by simpa using hW.lt x hx
  have hW' := hW
  obtain ⟨p, q, hA, hV, he, hz, hn⟩ := hW'
  rw [hv] at hV
  obtain ⟨_, rfl⟩ := trodVars_none hV
  have hpb : p = before := by rw [he]; simp
  subst hpb
  have hargs : ∀ sp : Nat → Bool, (∀ x ∈ p, sp x.block = true) → DataW.TrodAll enc Tryd.prog W' 0 sp true f.params.toList args.toList ds p := fun sp hsp => args_again hb hts hA hlt sp hsp
  have hres : ∀ (b : Nat) (sp : Nat → Bool) (hd : Bool), DataW.TrodAll enc Tryd.prog W' b sp hd f.resultTypes.toList ((Value.bool true).resultList f.resultTypes.size) [.lit (.bool true)] [] := fun b sp hd => by
    rw [hr]
    exact trodAll_cons_mk (shut_bool Tryd.underlying4 true) trodAll_mk0
  have hvars : ∀ sp : Nat → Bool, DataW.TrodVars enc Tryd.prog W' sp s.vars [] [] := fun sp => by rw [hv]; rfl
  refine ⟨ds, [], p, [], p, [], hW, ?_, ?_, ?_, World.keptBut_mono (fun x hx => ⟨hx, Or.inr (Or.inl hx)⟩) (hb.frame (· ∈ p)), fun _ => ?_⟩
  · rw [hs]; exact hres _ _ _
  · rw [hs]; exact hargs _ (fun x hx => by simpa using hlt x hx)
  · rw [hs]; exact hvars _
  · refine ⟨ok_one (v := .bool true) hr (by simp [Value.resultList]) (okWide_bool_mk (P := Tryd.prog) (W' := W') (t := 4) Tryd.underlying4 true), [.lit (.bool true)] ++ ds, [], ([] ++ p) ++ [], ⟨[] ++ p, [], ?_, hvars _, rfl, ?_, by intro h; cases h⟩, ?_⟩
    · exact trodAll_append (hargs (fun _ => true) (fun _ _ => rfl)) (hres _ _ _)
    · intro b off hp
      have hp' : MemPlace.cell b off ∈ p := by simpa using hp
      rw [hb.frozen (hlt _ hp')]
      exact hz b off (by simpa using hp')
    · intro x hx _
      simpa using hx
end Go.Proofs.YtllakbiipdcboaaDoor
