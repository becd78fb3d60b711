/-
 1 texts of this seat in one: D11.
-/
import Derived.Test.YtnobggabjpcbfaaGreatQI9
import Derived.Test.YtnobggabjpcbfaaGreatQI10
set_option maxRecDepth 100000
set_option maxHeartbeats 16000000
set_option linter.unusedVariables false
set_option linter.unusedSimpArgs false
namespace Go.Proofs.YtnobggabjpcbfaaGreat
open Go.RowKit Go.Maps
structure CBody (cb_ mb nf n : Nat) (kn : List Int) (W0 : World) (t : Anf) (out : Int) (j : Nat) (mv : Value) (wr : World) (kj mine : List Int) (nn : Nat) : Prop where
 known : KnownIn cb_ mb nf nn kj wr
 turn : Turned mb W0 wr
 out : out = bodyE nf kj (t.tail j)
 cnt : ∀ v, (mine ++ kn).count v = kj.count v
 row : wr.ownsRow W0.heap.size 3 1 mv mine.length (mine.map (Value.int .i64))
 in64 : ∀ x ∈ mine, In64 x
 b1 : nn + 2 * szA (t.tail j) + mine.length ≤ n + 2 * szA t
 b2 : kj.length + szA (t.tail j) ≤ kn.length + szA t
 b3 : mine.length + szA (t.tail j) ≤ szA t
theorem own_turned {mb : Nat} {w w' : World} {base : Nat} {e : TypeId} {v : Value} {n : Nat} {xs : List Value} (h : w.ownsRow base e 1 v n xs) (hT : Turned mb w w') (hb : mb < base) : w'.ownsRow base e 1 v n xs := by
 refine h.kept hT ?_
 cases ho : v.ownBlock with
 | none => exact .inl rfl
 | some k => exact .inr (by have := (h.lt k ho).1; simp; omega)
theorem bodyE_bind {nf : Nat} {kn : List Int} {x k n : Int} {ats : List Atm} {ks : List Int} {bl : List Anf} {rest : Anf} (h : bindE nf x k n ats ks bl.length = 0) :
 bodyE nf kn (.bind x k n ats ks bl rest) = if ats.all (asksB (if k = 10 then groupV ks ++ kn else kn)) = false then 16
  else if blocksE nf (if k = 10 then groupV ks ++ kn else kn) bl ≠ 0 then blocksE nf (if k = 10 then groupV ks ++ kn else kn) bl
  else bodyE nf (if k = 10 then groupV ks ++ kn else x :: kn) rest := by
 show (if _ then _ else _) = _
 rw [if_neg (by simp [h])]
theorem bodyE_wrong {nf : Nat} {kn : List Int} {x k n : Int} {ats : List Atm} {ks : List Int} {bl : List Anf} {rest : Anf} (h : bindE nf x k n ats ks bl.length ≠ 0) : bodyE nf kn (.bind x k n ats ks bl rest) = bindE nf x k n ats ks bl.length := by
 show (if _ then _ else _) = _
 rw [if_pos h]
theorem groupV_all {nf : Nat} {x n : Int} {ats : List Atm} {ks : List Int} {nb : Nat} (h : BindOk nf x 10 n ats ks nb) : ∀ y ∈ groupV ks, In64 y := by
 have h2 := h.number
 simp only [numberB, Bool.and_eq_true] at h2
 have h3 := h2.1.1.2
 simp at h3
 exact fun y hy => in64_var (h3 y hy)
theorem bind_var {nf : Nat} {x k n : Int} {ats : List Atm} {ks : List Int} {nb : Nat} (h : BindOk nf x k n ats ks nb) : In64 x := by
 have h2 := h.number
 simp only [numberB, Bool.and_eq_true] at h2
 exact in64_var h2.1.1.1
theorem bind_noblocks {nf : Nat} {x k n : Int} {ats : List Atm} {ks : List Int} {bl : List Anf} (h : BindOk nf x k n ats ks bl.length) (hk : k ≠ 8) : bl = [] := by
 have h1 := h.bare
 simp only [bareB, Bool.and_eq_true] at h1
 have h2 := h1.2
 simp [hasB, hk] at h2
 exact List.length_eq_zero_iff.1 (by simpa using h2)
theorem KnownIn.cellNe {cb_ mb nf n : Nat} {kn : List Int} {W : World} (h : KnownIn cb_ mb nf n kn W) {q o : Nat} {v : Value} (hc : W.cell? ⟨q, o, none⟩ = some v) : q ≠ mb := by
 rintro rfl
 obtain ⟨D, ⟨es, clock, e1, _⟩, _⟩ := h.map
 simp [World.cell?, e1] at hc
theorem KnownIn.grown {cb_ mb nf n : Nat} {kn : List Int} {W V : World} {row : Option Nat} (h : KnownIn cb_ mb nf n kn W) (hg : W.grownBy V row) (hr : ∀ k, row = some k → cb_ < k ∧ mb < k) : KnownIn cb_ mb nf n kn V := by
 refine ⟨(hg.block cb_ h.lt.1 (fun e => by have := (hr cb_ e.symm).1; omega)).trans h.chk, h.ne, ?_⟩
 obtain ⟨D, h1, h2⟩ := h.map
 exact ⟨D, h1.kept hg (fun e => by have := (hr mb e.symm).2; omega), h2⟩
theorem Turned.grown {mb : Nat} {W0 V V2 : World} {row : Option Nat} (h : Turned mb W0 V) (hg : V.grownBy V2 row) (hr : ∀ k, row = some k → W0.heap.size ≤ k) : Turned mb W0 V2 :=
 ⟨hg.os.trans h.os, hg.tape.trans h.tape, hg.output.trans h.output, Nat.le_trans h.size hg.size, fun i hi hn => (hg.block i (Nat.lt_of_lt_of_le hi h.size) (fun e => by have := hr i e.symm; omega)).trans (h.block i hi hn)⟩
theorem addr_add (b o j : Nat) : (⟨b, o, none⟩ : Addr).add j = ⟨b, o + j, none⟩ := by unfold Addr.add; split <;> simp_all
section
variable {cb_ mb nf : Nat}
theorem cbody_any (hnf : nf ≤ 1000000) {B : Nat} (hBm : B ≤ mb) (t : Anf) : ∀ (n : Nat) (kn : List Int) (W : World) (v : Array Value), BodyIn B W t v → B ≤ W.heap.size → rngA t → KnownIn cb_ mb nf n kn W → n + 2 * szA t ≤ 1000000000 → kn.length + szA t ≤ 1000000000 →
 Calls Tryz.prog 36 #[.pointer (some ⟨cb_, 0, none⟩), .agg v] W fun e w' => e = .returned (.int .i64 (bodyE nf kn t)) ∧ KnownIn cb_ mb nf (n + 2 * szA t) kn w' ∧ Turned mb W w' := by
 induction hs : SizeOf.sizeOf t using Nat.strongRecOn generalizing t with
 | _ sz ih =>
  subst hs
  intro n kn W v hin hBW hrng hk hn1 hn2
  obtain ⟨A, c, b, o, rfl, hc, h96, hA, hB⟩ := hin.at_
  obtain ⟨Wc, hWc⟩ : ∃ Wc, W.alloc (.cells #[.pointer (some ⟨cb_, 0, none⟩)] 82) = Wc := ⟨_, rfl⟩
  obtain ⟨W0, hW0⟩ : ∃ W0, Wc.alloc (.cells #[.slice A t.len c, .bool t.last.v, .int .i64 t.last.n] 27) = W0 := ⟨_, rfl⟩
  have hsc : Wc.heap.size = W.heap.size + 1 := by rw [← hWc]; simp
  have hb0 : Below W.heap.size W W0 := by rw [← hW0, ← hWc]; exact below_two _ _ _
  have hs0 : W0.heap.size = W.heap.size + 2 := by rw [← hW0, World.size_alloc, hsc]
  have hn0 : W0.heap[W.heap.size]? = some (.cells #[.pointer (some ⟨cb_, 0, none⟩)] 82 (0, 0)) := by rw [← hW0, ← hWc]; exact two_new1 _ _ _
  have hn1' : W0.heap[W.heap.size + 1]? = some (.cells #[.slice A t.len c, .bool t.last.v, .int .i64 t.last.n] 27 (0, 0)) := by rw [← hW0, ← hWc]; exact two_new2 _ _ _
  have hlt := hk.lt
  have HC := Lib.hid (fun (V : World) (hV : Turned mb W0 V) => (show V.cell? ⟨W.heap.size, 0, none⟩ = some (.pointer (some ⟨cb_, 0, none⟩)) ∧ V.cell? ⟨W.heap.size + 1, 0, none⟩ = some (.slice A t.len c) ∧ V.cell? ⟨W.heap.size + 1, 1, none⟩ = some (.bool t.last.v) ∧ V.cell? ⟨W.heap.size + 1, 2, none⟩ = some (.int .i64 t.last.n) from
   ⟨hV.cell (by omega) (by simp [World.cell?, hn0]), hV.cell (by omega) (by simp [World.cell?, hn1']), hV.cell (by omega) (by simp [World.cell?, hn1']), hV.cell (by omega) (by simp [World.cell?, hn1'])⟩))
  obtain ⟨cA, cB, cC, cD⟩ := HC.out W0 (Turned.refl _ _)
  have HBV := Lib.hid (fun (V : World) (hV : Turned mb W0 V) => (show Below B W V from (hb0.mono hBW).trans (hV.below hBm (by omega))))
  have HBI := Lib.hid (fun (j : Nat) (hj : j < t.len) (V : World) (hV : Turned mb W0 V) =>
   (show ∃ x k nn ats ks bl Aa ca Ak ck Al cl, A = some ⟨b, o, none⟩ ∧ t.tail j = .bind x k nn ats ks bl (t.tail (j + 1)) ∧ (V.cell? ⟨b, o + j * 6, none⟩ = some (.int .i64 x) ∧ V.cell? ⟨b, o + j * 6 + 1, none⟩ = some (.int .i64 k) ∧ V.cell? ⟨b, o + j * 6 + 2, none⟩ = some (.int .i64 nn) ∧
    V.cell? ⟨b, o + j * 6 + 3, none⟩ = some (.slice Aa ats.length ca) ∧ V.cell? ⟨b, o + j * 6 + 4, none⟩ = some (.slice Ak ks.length ck) ∧ V.cell? ⟨b, o + j * 6 + 5, none⟩ = some (.slice Al bl.length cl)) ∧
    Hid (∀ V2 : World, Turned mb W0 V2 → AtomsIn V2.heap.size V2 Aa ats ∧ IntsIn V2.heap.size V2 Ak ks) ∧ ats.length ≤ ca ∧ ks.length ≤ ck ∧ bl.length ≤ cl ∧ bl.length * 40 ≤ 140737488351232 ∧ (∀ a ∈ ats, In64 a.n) ∧
    Hid (∀ q (hq : q < bl.length) (V2 : World), Turned mb W0 V2 → ∃ bb oo A0 n0 c0 r0 r1, Al = some ⟨bb, oo, none⟩ ∧ V2.cell? ⟨bb, oo + q * 3, none⟩ = some (.slice A0 n0 c0) ∧ V2.cell? ⟨bb, oo + q * 3 + 1, none⟩ = some (.bool r0) ∧ V2.cell? ⟨bb, oo + q * 3 + 2, none⟩ = some (.int .i64 r1) ∧
     ∀ (V3 : World) (n3 : Nat) (kn3 : List Int), Turned mb W0 V3 → KnownIn cb_ mb nf n3 kn3 V3 → n3 + 2 * szA bl[q] ≤ 1000000000 → kn3.length + szA bl[q] ≤ 1000000000 → Calls Tryz.prog 36 #[.pointer (some ⟨cb_, 0, none⟩), .agg #[.slice A0 n0 c0, .bool r0, .int .i64 r1]] V3 fun e w' => e = .returned (.int .i64 (bodyE nf kn3 bl[q])) ∧ KnownIn cb_ mb nf (n3 + 2 * szA bl[q]) kn3 w' ∧ Turned mb V3 w') from by
    obtain ⟨x, k, nn, ats, ks, bl, Aa, ca, Ak, ck, Al, cl, h1, h2⟩ := hB j hj
    have hbV := HBV.out V hV
    have hr : rngA (.bind x k nn ats ks bl (t.tail (j + 1))) := by rw [← h1]; exact rngA_tail hrng j
    unfold rngA at hr
    refine ⟨x, k, nn, ats, ks, bl, Aa, ca, Ak, ck, Al, cl, hA (by omega), h1, ⟨(hbV.cell (p := ⟨_, _, none⟩) h2.lt).trans h2.c0, (hbV.cell (p := ⟨_, _, none⟩) h2.lt).trans h2.c1, (hbV.cell (p := ⟨_, _, none⟩) h2.lt).trans h2.c2, (hbV.cell (p := ⟨_, _, none⟩) h2.lt).trans h2.c3, (hbV.cell (p := ⟨_, _, none⟩) h2.lt).trans h2.c4, (hbV.cell (p := ⟨_, _, none⟩) h2.lt).trans h2.c5⟩,
     Lib.hid (fun V2 hV2 => ⟨(h2.ha.below (HBV.out V2 hV2)).mono (Nat.le_trans hBW (HBV.out V2 hV2).size), (h2.hk.below (HBV.out V2 hV2)).mono (Nat.le_trans hBW (HBV.out V2 hV2).size)⟩), h2.hac, h2.hkc, h2.hlc, h2.hl8, hr.1, Lib.hid (fun q hq V2 hV2 => ?_)⟩
    obtain ⟨bb, oo, g0, g1, g2, e1, e2, e3, e4, e5, hbd⟩ := h2.blk q hq
    have hbV2 := HBV.out V2 hV2
    have hbd0 := hbd
    obtain ⟨A0, d0, b0, o0, hvv, -⟩ := hbd.at_
    simp only [Array.mk.injEq, List.cons.injEq, and_true] at hvv
    obtain ⟨rfl, rfl, rfl⟩ := hvv
    refine ⟨bb, oo, A0, _, d0, _, _, e1, (hbV2.cell (p := ⟨_, _, none⟩) e2).trans e3, (hbV2.cell (p := ⟨_, _, none⟩) e2).trans e4, (hbV2.cell (p := ⟨_, _, none⟩) e2).trans e5, fun V3 n3 kn3 hV3 hk3 hn3 hl3 => ?_⟩
    exact ih _ (size_block h1 (List.getElem_mem hq)) bl[q] rfl n3 kn3 V3 _ (hbd0.kept (HBV.out V3 hV3)) (Nat.le_trans hBW (HBV.out V3 hV3).size) (rngL_at hr.2.1 _ (List.getElem_mem hq)) hk3 hn3 hl3))
  have HT := Lib.hid (Anf.tail_ret t)
  obtain ⟨out, hout⟩ : ∃ o, bodyE nf kn t = o := ⟨_, rfl⟩
  have hst : CBody cb_ mb nf n kn W0 t out 0 (.slice none 0 0) W0 kn [] n := ⟨hk.below hb0, Turned.refl _ _, by rw [Anf.tail_zero]; exact hout.symm, fun v => rfl, ⟨by simp, .inl ⟨rfl, rfl⟩⟩, by simp, by rw [Anf.tail_zero]; simp, by rw [Anf.tail_zero]; omega, by rw [Anf.tail_zero]; simp⟩
  have HST := Lib.hid hst
  rw [hout]
  have HLR := Lib.hid (rngA_last hrng)
  have hmW : mb < W0.heap.size := by omega
  have HCM := Lib.hid (show cb_ < W0.heap.size ∧ mb < W0.heap.size from by omega)
  have HS0 := Lib.hid hmW
  -- the way out
  have HEND := Lib.hid (fun (V : World) (kj mine : List Int) (nn : Nat) (mv : Value) (hkn : KnownIn cb_ mb nf nn kj V) (hT : Turned mb W0 V) (hcnt : ∀ v, (mine ++ kn).count v = kj.count v) (hrow : V.ownsRow W0.heap.size 3 1 mv mine.length (mine.map (Value.int .i64))) (h64 : ∀ x ∈ mine, In64 x) (hb1 : nn + mine.length ≤ n + 2 * szA t) (hb3 : mine.length ≤ szA t) =>
   (show ∃ A' c', mv = .slice A' mine.length c' ∧ Calls Tryz.prog 37 #[.pointer (some ⟨cb_, 0, none⟩), .slice A' mine.length c'] V fun e w' => e = .returned (.tuple #[]) ∧ KnownIn cb_ mb nf (n + 2 * szA t) kn w' ∧ Turned mb W w' from by
    obtain ⟨A', c', rfl, h1, h2⟩ := own_intsD hrow (by omega)
    refine ⟨A', c', rfl, (forget_any (kn := kn) (hkn.count hcnt) h1 h2 h64 (by omega) (by omega) (fun a ha => ?_)).mono fun e w' h => ⟨h.1, h.2.1.mono hb1, (Turned.of_below hb0).trans (hT.trans h.2.2)⟩⟩
    subst ha
    have := (hrow.lt a.block rfl).1
    omega))
  clear hst hout hB hin hk hrng ih hA hn0 hn1' hs0 hb0 hlt
  have hT64 : t.len ≤ 2000000000000 := by omega
  have HZ := Lib.hid (rfl : szA t = szA t)
  obtain ⟨T, hT⟩ : ∃ T, t.len = T := ⟨_, rfl⟩
  rw [hT] at hc h96 hW0 HC HBI HT hT64 cB ⊢
  clear hT h96
  go_enter Tryz.func36, Tryz.ntmps36
  go_wp2_with fail
  try go_step3
  go_wp2_with fail
  try go_step3
  go_wp2_with fail
  go_loopw [4, 5, 14] (fun ev mv iv wr => ∃ (j : Nat) (kj mine : List Int) (nn : Nat), j ≤ T ∧ iv = .int .i64 (j : Int) ∧ ev = .int .i64 0 ∧ Hid (CBody cb_ mb nf n kn W0 t out j mv wr kj mine nn)) (fun _ _ iv _ => T + 1 - (intOf iv).toNat)
  case atStart => exact ⟨0, kn, [], n, by omega, rfl, rfl, HST⟩
  case round =>
   obtain ⟨wo, rfl⟩ : ∃ wo, wo = wr := ⟨_, rfl⟩
   obtain ⟨j, kj, mine, nn, hj, rfl, rfl, HJ⟩ := hrel
   obtain ⟨r0, r1, r2, r3⟩ := HC.out wo HJ.out.turn
   by_cases hlt : j < T
   · obtain ⟨x, k, n2, ats, ks, bl, Aa, ca, Ak, ck, Al, cl, rfl, htail, ⟨s0, s1, s2, s3, s4, s5⟩, HLI, hac, hkc, hblc, hb40, hr64, HBL⟩ := HBI.out j hlt wo HJ.out.turn
     have e1 : (0 : Int) ≤ (j : Int) := by omega
     have e2 : (j : Int) < (T : Int) := by omega
     have e4 : IntKind.i64.wrap ((j : Int) + 1) = (j : Int) + 1 := by rw [IntKind.wrap_i64]; omega
     have e5 : (T : Int) ≤ (c : Int) := by omega
     obtain ⟨W1, hW1⟩ : ∃ W1, wo.alloc (.cells #[.int .i64 x, .int .i64 k, .int .i64 n2, .slice Aa ats.length ca, .slice Ak ks.length ck, .slice Al bl.length cl] 62) = W1 := ⟨_, rfl⟩
     have hb1 : Below wo.heap.size wo W1 := by rw [← hW1]; exact (Below.refl _ _).alloc (Nat.le_refl _) _
     have hnew : W1.heap[wo.heap.size]? = some (.cells #[.int .i64 x, .int .i64 k, .int .i64 n2, .slice Aa ats.length ca, .slice Ak ks.length ck, .slice Al bl.length cl] 62 (0, 0)) := by rw [← hW1]; exact World.alloc_heap_new wo _
     have hwo := HJ.out.turn.size
     have HW1 := Lib.hid (show wo.heap.size < W1.heap.size from by rw [← hW1]; simp)
     have HT1 := Lib.hid (HJ.out.turn.trans (Turned.of_below hb1))
     have HK1 := Lib.hid (HJ.out.known.below hb1)
     have HRW1 := Lib.hid (own_turned HJ.out.row (Turned.of_below hb1) hmW)
     have HRLT := Lib.hid (fun (g : Nat) (hg : u5.ownBlock = some g) => (show W0.heap.size ≤ g ∧ g < wo.heap.size from HJ.out.row.lt g hg))
     have HD := Lib.hid (fun (V : World) (hV : V.heap[wo.heap.size]? = W1.heap[wo.heap.size]?) => (show V.cell? ⟨wo.heap.size, 0, none⟩ = some (.int .i64 x) ∧ V.cell? ⟨wo.heap.size, 1, none⟩ = some (.int .i64 k) ∧ V.cell? ⟨wo.heap.size, 2, none⟩ = some (.int .i64 n2) ∧ V.cell? ⟨wo.heap.size, 3, none⟩ = some (.slice Aa ats.length ca) ∧ V.cell? ⟨wo.heap.size, 4, none⟩ = some (.slice Ak ks.length ck) ∧ V.cell? ⟨wo.heap.size, 5, none⟩ = some (.slice Al bl.length cl) from by
      have h := hV.trans hnew
      exact ⟨by simp [World.cell?, h], by simp [World.cell?, h], by simp [World.cell?, h], by simp [World.cell?, h], by simp [World.cell?, h], by simp [World.cell?, h]⟩))
     obtain ⟨t0, t1, t2, t3, t4, t5⟩ := HD.out W1 rfl
     obtain ⟨v0, v1, v2, v3⟩ := HC.out W1 HT1.out
     have HBD := Lib.hid (cbind_any hnf x k n2 (Al := Al) (nb := bl.length) (cb := cl) HK1.out.chk (HLI.out W1 HT1.out).1 hac (HLI.out W1 HT1.out).2 hkc)
     have HR64 := Lib.hid hr64
     have HOUT := Lib.hid (HJ.out.out.trans (congrArg (bodyE nf kj) htail))
     have HSZ := Lib.hid (show szA (t.tail j) = 1 + ks.length + szL bl + szA (t.tail (j + 1)) from by rw [htail]; rfl)
     clear hb1 hnew htail hr64
     go_wp2_with fail
     refine HBD.out.mono ?_
     rintro en w2 ⟨rfl, hb2⟩
     have HK2 := Lib.hid (HK1.out.below hb2)
     have HT2 := Lib.hid (HT1.out.trans (Turned.of_below hb2))
     have HRW2 := Lib.hid (own_turned HRW1.out (Turned.of_below hb2) hmW)
     have HH2 := Lib.hid (hb2.block wo.heap.size HW1.out)
     have HS2 := Lib.hid (Nat.lt_of_lt_of_le HW1.out hb2.size)
     obtain ⟨x0, x1, x2, x3, x4, x5⟩ := HD.out w2 HH2.out
     obtain ⟨y0, y1, y2, y3⟩ := HC.out w2 HT2.out
     clear hb2 t0 t1 t2 t3 t4 t5 v0 v1 v2 v3 HBD
     cases hbe : (bindE nf x k n2 ats ks bl.length == 0)
     · have hne : bindE nf x k n2 ats ks bl.length ≠ 0 := by simpa using hbe
       have HF := Lib.hid (show out = bindE nf x k n2 ats ks bl.length from HOUT.out.trans (bodyE_wrong hne))
       obtain ⟨A', c', rfl, hF⟩ := HEND.out w2 kj mine nn u5 HK2.out HT2.out HJ.out.cnt HRW2.out HJ.out.in64 (by have := HJ.out.b1; omega) (by have := HJ.out.b3; omega)
       clear hne
       go_wp2_with fail
       refine hF.mono ?_
       rintro en w9 ⟨rfl, hk9, hT9⟩
       have HK9 := Lib.hid hk9
       have HT9 := Lib.hid hT9
       clear hk9 hT9 hF
       go_wp2_with fail
       rw [Exit.noGoto_ret]
       go_ret
       exact ⟨ret_int HF.out.symm, HK9.out, HT9.out⟩
     · have hz : bindE nf x k n2 ats ks bl.length = 0 := by simpa using hbe
       have hok := bindOk_of hz
       rw [hz]
       have HO2 := Lib.hid (HOUT.out.trans (bodyE_bind hz))
       clear hz hbe HOUT
       by_cases hk10 : k = 10
       · subst hk10
         obtain rfl := bind_noblocks hok (by decide)
         obtain ⟨-, hk3, -⟩ := hok.group
         have HG64 := Lib.hid (groupV_all hok)
         have HGR := Lib.hid (cgroup_any 10 n2 Aa Ak Al ats.length ca ck ([] : List Anf).length cl ks w2 (HLI.out w2 HT2.out).2 hkc)
         have HGL := Lib.hid (groupV_len ks)
         clear hok
         have HO3 := Lib.hid (show out = (if ats.all (asksB (groupV ks ++ kj)) = false then 16 else bodyE nf (groupV ks ++ kj) (t.tail (j + 1))) from HO2.out.trans (by simp [blocksE]))
         clear HO2
         generalize hG : groupV ks = G at *
         clear hG
         go_wp2_with fail
         refine HGR.out.mono ?_
         rintro en w3 ⟨Ag, cg, rfl, hi, hgc, hb3⟩
         have hgl := HGL.out
         obtain ⟨gb, go_, rfl, hgb, hgcell⟩ := hi.at_ (by omega)
         have HK3 := Lib.hid (HK2.out.below hb3)
         have HT3 := Lib.hid (HT2.out.trans (Turned.of_below hb3))
         have HRW3 := Lib.hid (own_turned HRW2.out (Turned.of_below hb3) hmW)
         have HH3 := Lib.hid ((hb3.block wo.heap.size HS2.out).trans HH2.out)
         have HS3 := Lib.hid (Nat.lt_of_lt_of_le HS2.out hb3.size)
         have hgm : gb ≠ mb := HK3.out.cellNe (hgcell 0 (by omega))
         have hb1' := HJ.out.b1
         have hb2' := HJ.out.b2
         have hb3' := HJ.out.b3
         have hsz := HSZ.out
         have HKN := Lib.hid (know_any HK3.out hi hgc HG64.out (by omega) (by omega) (fun a ha => by cases ha; exact hgm))
         have HGC := Lib.hid hgcell
         have HGM := Lib.hid hgm
         obtain ⟨y0', y1', y2', y3'⟩ := HC.out w3 HT3.out
         clear hb3 hi hgcell hgm HGR x0 x1 x2 x3 x4 x5 y0 y1 y2 y3 hb1' hb2' hb3' hsz
         have HASKF := Lib.hid (fun (V : World) (hkV : KnownIn cb_ mb nf (nn + G.length) (G ++ kj) V) (hTV : Turned mb W0 V) => asked_any hkV (HC.out V hTV).1 (HLI.out V hTV).1 hac HR64.out)
         have hml : mine.length + G.length ≤ maxLen ∧ (mine.length + G.length) * 8 ≤ 140737488355328 := by
          have h1 := HJ.out.b3
          have h2 := HSZ.out
          unfold maxLen
          omega
         obtain ⟨hml1, hml2⟩ := hml
         clear hgl
         obtain ⟨i0, hinf, hz0, hz1, hz2⟩ := info_parts infoI
         go_wp2_with fail
         refine HKN.out.mono ?_
         rintro en w4 ⟨rfl, hk4, hT4⟩
         have HK4 := Lib.hid hk4
         have HT4 := Lib.hid (HT3.out.trans hT4)
         have HRW4 := Lib.hid (own_turned HRW3.out hT4 hmW)
         have HH4 := Lib.hid ((hT4.block wo.heap.size HS3.out (by have := hwo; simp; omega)).trans HH3.out)
         have HS4 := Lib.hid (Nat.lt_of_lt_of_le HS3.out hT4.size)
         have HNW := Lib.hid (show ∀ q u, (G.map (Value.int .i64))[q]? = some u → w4.cell? ((⟨gb, go_, none⟩ : Addr).add q) = some u from fun q u hq => by
          rw [addr_add]
          simp only [List.getElem?_map, Option.map_eq_some_iff] at hq
          obtain ⟨z, hz, rfl⟩ := hq
          have hql := (List.getElem?_eq_some_iff.1 hz).1
          have := hT4.cell HGM.out (HGC.out q hql)
          rw [nth_eq _ hql] at this
          rw [this]
          rw [List.getElem?_eq_getElem hql] at hz
          cases hz; rfl)
         have HSW := Lib.hid (Nat.le_trans HT3.out.size hT4.size)
         clear hk4 hT4
         go_wp2_with (at_builtin; refine wpList_append_own_at _ rfl _ _ 30 rfl W0.heap.size 3 i0 (.int .i64 0) 1 8 undI hinf hz0 hz1 hz2 rfl (by decide) _ _ _ rfl HRW4.out ⟨gb, go_, none⟩ G.length cg (G.map (Value.int .i64)) rfl (by simp) HNW.out (by simp [Value.oneCell']) hml1 hml2 HSW.out ?_; intro v' w5 hown' hgrow _ hat; obtain ⟨z0, z1, z2, z3, z4, z5⟩ := HD.out w5 ((hgrow.block wo.heap.size HS4.out (fun e => by have := (HRLT.out wo.heap.size e.symm).2; omega)).trans HH4.out))
         have hgrow' := hgrow
         change World.grownBy _ w5 u5.ownBlock at hgrow'
         have HT5 := Lib.hid (HT4.out.grown hgrow' (fun g hg => (HRLT.out g hg).1))
         have HK5 := Lib.hid (HK4.out.grown hgrow' (fun g hg => by have := (HRLT.out g hg).1; have := HCM.out; omega))
         have HRW5 := Lib.hid (show w5.ownsRow W0.heap.size 3 1 v' (mine ++ G).length ((mine ++ G).map (Value.int .i64)) from by rw [List.length_append, List.map_append]; exact hown')
         have HH5 := Lib.hid ((hgrow'.block wo.heap.size HS4.out (fun e => by have := (HRLT.out wo.heap.size e.symm).2; omega)).trans HH4.out)
         have HS5 := Lib.hid (Nat.lt_of_lt_of_le HS4.out hgrow'.size)
         clear hgrow hgrow' hat hown' HNW HKN
         refine (HASKF.out w5 HK5.out HT5.out).mono ?_
         rintro en w6 ⟨rfl, hb6⟩
         have HK6 := Lib.hid (HK5.out.below hb6)
         have HT6 := Lib.hid (HT5.out.trans (Turned.of_below hb6))
         have HRW6 := Lib.hid (own_turned HRW5.out (Turned.of_below hb6) hmW)
         have HH6 := Lib.hid ((hb6.block wo.heap.size HS5.out).trans HH5.out)
         have HCNT := Lib.hid (show ∀ v, ((mine ++ G) ++ kn).count v = (G ++ kj).count v from fun v => by
          have := HJ.out.cnt v
          simp only [List.count_append] at this ⊢
          omega)
         have HM64 := Lib.hid (show ∀ y ∈ mine ++ G, In64 y from fun y hy => by
          rcases List.mem_append.1 hy with hy | hy
          · exact HJ.out.in64 y hy
          · exact HG64.out y hy)
         obtain ⟨x0, x1, x2, x3, x4, x5⟩ := HD.out w6 HH6.out
         obtain ⟨y0, y1, y2, y3⟩ := HC.out w6 HT6.out
         clear hb6 z0 z1 z2 z3 z4 z5
         cases hall : ats.all (asksB (G ++ kj))
         · have HF := Lib.hid (show out = 16 from HO3.out.trans (by rw [if_pos hall]))
           obtain ⟨A', c', rfl, hF⟩ := HEND.out w6 (G ++ kj) (mine ++ G) (nn + G.length) v' HK6.out HT6.out HCNT.out HRW6.out HM64.out (by have := HJ.out.b1; have := HSZ.out; have := HGL.out; simp; omega) (by have := HJ.out.b3; have := HSZ.out; have := HGL.out; simp; omega)
           rw [List.length_append] at hF
           go_wp2_with fail
           refine hF.mono ?_
           rintro en w9 ⟨rfl, hk9, hT9⟩
           have HK9 := Lib.hid hk9
           have HT9 := Lib.hid hT9
           clear hk9 hT9 hF
           go_wp2_with fail
           rw [Exit.noGoto_ret]
           go_ret
           exact ⟨ret_int HF.out.symm, HK9.out, HT9.out⟩
         · have HO4 := Lib.hid (show out = bodyE nf (G ++ kj) (t.tail (j + 1)) from HO3.out.trans (by rw [if_neg (by rw [hall]; decide)]))
           have HN := Lib.hid (show CBody cb_ mb nf n kn W0 t out (j + 1) v' w6 (G ++ kj) (mine ++ G) (nn + G.length) from
            ⟨HK6.out, HT6.out, HO4.out, HCNT.out, HRW6.out, HM64.out, by have := HJ.out.b1; have := HSZ.out; have := HGL.out; simp; omega, by have := HJ.out.b2; have := HSZ.out; have := HGL.out; simp; omega, by have := HJ.out.b3; have := HSZ.out; have := HGL.out; simp; omega⟩)
           go_wp2_with fail
           refine wp_loop_rounds 1 ?_
           rw [rounds_succ]
           go_wp2_with fail
           go_roundw
           case rel => exact ⟨j + 1, _, _, _, by omega, by go_num, rfl, HN⟩
           case measure => simp [intOf]; omega
       · have hkb : (k == 10) = false := by simpa using hk10
         have hkn : (k != 10) = true := by simpa using hk10
         have HX64 := Lib.hid (bind_var hok)
         have HO3 := Lib.hid (show out = (if ats.all (asksB kj) = false then 16 else if blocksE nf kj bl ≠ 0 then blocksE nf kj bl else bodyE nf (x :: kj) (t.tail (j + 1))) from HO2.out.trans (by simp [hk10]))
         have HASK := Lib.hid (asked_any HK2.out (HC.out w2 HT2.out).1 (HLI.out w2 HT2.out).1 hac HR64.out)
         clear hok HO2
         go_wp2_with fail
         refine HASK.out.mono ?_
         rintro en w3 ⟨rfl, hb3⟩
         have HK3 := Lib.hid (HK2.out.below hb3)
         have HT3 := Lib.hid (HT2.out.trans (Turned.of_below hb3))
         have HRW3 := Lib.hid (own_turned HRW2.out (Turned.of_below hb3) hmW)
         have HH3 := Lib.hid ((hb3.block wo.heap.size HS2.out).trans HH2.out)
         have HS3 := Lib.hid (Nat.lt_of_lt_of_le HS2.out hb3.size)
         obtain ⟨z0, z1, z2, z3, z4, z5⟩ := HD.out w3 HH3.out
         obtain ⟨a0, a1, a2, a3⟩ := HC.out w3 HT3.out
         clear hb3 HASK x0 x1 x2 x3 x4 x5 y0 y1 y2 y3
         cases hall : ats.all (asksB kj)
         · have HF := Lib.hid (show out = 16 from HO3.out.trans (by rw [if_pos hall]))
           obtain ⟨A', c', rfl, hF⟩ := HEND.out w3 kj mine nn u5 HK3.out HT3.out HJ.out.cnt HRW3.out HJ.out.in64 (by have := HJ.out.b1; omega) (by have := HJ.out.b3; omega)
           go_wp2_with fail
           refine hF.mono ?_
           rintro en w9 ⟨rfl, hk9, hT9⟩
           have HK9 := Lib.hid hk9
           have HT9 := Lib.hid hT9
           clear hk9 hT9 hF
           go_wp2_with fail
           rw [Exit.noGoto_ret]
           go_ret
           exact ⟨ret_int HF.out.symm, HK9.out, HT9.out⟩
         · have HO4 := Lib.hid (show out = (if blocksE nf kj bl ≠ 0 then blocksE nf kj bl else bodyE nf (x :: kj) (t.tail (j + 1))) from HO3.out.trans (by rw [if_neg (by rw [hall]; decide)]))
           clear HO3 hall
           go_wp2_with fail
           go_loopw [4, 45] (fun ev iv wr2 => ∃ (q nn2 : Nat), q ≤ bl.length ∧ iv = .int .i64 (q : Int) ∧ ev = .int .i64 0 ∧ Hid (KnownIn cb_ mb nf nn2 kj wr2) ∧ Hid (Turned mb w3 wr2) ∧ Hid (blocksE nf kj bl = blocksE nf kj (bl.drop q)) ∧ Hid (nn2 + 2 * szL (bl.drop q) ≤ nn + 2 * szL bl)) (fun _ iv _ => bl.length + 1 - (intOf iv).toNat)
           case atStart => exact ⟨0, nn, by omega, rfl, rfl, HK3, Lib.hid (Turned.refl _ _), Lib.hid (by simp), Lib.hid (by simp)⟩
           case round =>
            obtain ⟨wq, rfl⟩ : ∃ wq, wq = wr := ⟨_, rfl⟩
            obtain ⟨q, nn2, hq, rfl, rfl, HKq, HTq, HBq, HNq⟩ := hrel
            have HTw := Lib.hid (HT3.out.trans HTq.out)
            have HRWq := Lib.hid (own_turned HRW3.out HTq.out hmW)
            have HHq := Lib.hid ((HTq.out.block wo.heap.size HS3.out (by have := hwo; have := HS0.out; simp; omega)).trans HH3.out)
            have HSq := Lib.hid (Nat.lt_of_lt_of_le HS3.out HTq.out.size)
            obtain ⟨f0, f1, f2, f3, f4, f5⟩ := HD.out wq HHq.out
            obtain ⟨g0, g1, g2, g3⟩ := HC.out wq HTw.out
            by_cases hlq : q < bl.length
            · obtain ⟨bb, oo, A0, n0, c0', r0', r1', rfl, p0, p1, p2, hcall⟩ := HBL.out q hlq wq HTw.out
              obtain ⟨W4, hW4⟩ : ∃ W4, wq.alloc (.cells #[.slice A0 n0 c0', .bool r0', .int .i64 r1'] 27) = W4 := ⟨_, rfl⟩
              have hb4 : Below wq.heap.size wq W4 := by rw [← hW4]; exact (Below.refl _ _).alloc (Nat.le_refl _) _
              have m0 : W4.cell? ⟨wq.heap.size, 0, none⟩ = some (.slice A0 n0 c0') := by rw [← hW4, World.cell?_alloc_at _ _ _ _ rfl]; rfl
              have m1 : W4.cell? ⟨wq.heap.size, 1, none⟩ = some (.bool r0') := by rw [← hW4, World.cell?_alloc_at _ _ _ _ rfl]; rfl
              have m2 : W4.cell? ⟨wq.heap.size, 2, none⟩ = some (.int .i64 r1') := by rw [← hW4, World.cell?_alloc_at _ _ _ _ rfl]; rfl
              have HT4 := Lib.hid (HTw.out.trans (Turned.of_below hb4))
              obtain ⟨b0', b1', b2', b3'⟩ := HC.out W4 HT4.out
              have hdrop := szL_drop hlq
              have HDR := Lib.hid hdrop
              have HCALL := Lib.hid (hcall W4 nn2 kj HT4.out (HKq.out.below hb4) (by have h1 := HJ.out.b1; have h2 := HSZ.out; have h3 := HNq.out; omega) (by have h1 := HJ.out.b2; have h2 := HSZ.out; have h3 := szL_at (bl := bl) _ (List.getElem_mem hlq); omega))
              have HBS := Lib.hid (HBq.out.trans (blocksE_drop hlq))
              have d1 : (0 : Int) ≤ (q : Int) := by omega
              have d2 : (q : Int) < (bl.length : Int) := by omega
              have d3 : (bl.length : Int) ≤ (cl : Int) := by omega
              have d4 : IntKind.i64.wrap ((q : Int) + 1) = (q : Int) + 1 := by rw [IntKind.wrap_i64]; omega
              have HB4 := Lib.hid hb4
              clear hcall hb4 hdrop
              go_wp2_with fail
              refine HCALL.out.mono ?_
              rintro en w5 ⟨rfl, hk5, hT5⟩
              have HK5 := Lib.hid hk5
              have HTq5 := Lib.hid ((Turned.of_below HB4.out).trans hT5)
              have HT5 := Lib.hid (HTw.out.trans HTq5.out)
              obtain ⟨b4', b5', b6', b7'⟩ := HC.out w5 HT5.out
              have HRW5 := Lib.hid (own_turned HRWq.out HTq5.out hmW)
              clear hk5 hT5 HCALL
              cases hz : (bodyE nf kj bl[q] == 0)
              · have hne : bodyE nf kj bl[q] ≠ 0 := by simpa using hz
                have hbe : blocksE nf kj bl = bodyE nf kj bl[q] := HBS.out.trans (by rw [if_pos hne])
                have HF := Lib.hid (show out = bodyE nf kj bl[q] from HO4.out.trans (by rw [hbe, if_pos hne]))
                obtain ⟨A', c', rfl, hF⟩ := HEND.out w5 kj mine (nn2 + 2 * szA bl[q]) u5 HK5.out HT5.out HJ.out.cnt HRW5.out HJ.out.in64 (by have h1 := HJ.out.b1; have h2 := HSZ.out; have h3 := HNq.out; have h4 := HDR.out; omega) (by have := HJ.out.b3; omega)
                clear hne hbe
                generalize bodyE nf kj bl[q] = ev at *
                go_wp2_with fail
                refine hF.mono ?_
                rintro en w9 ⟨rfl, hk9, hT9⟩
                have HK9 := Lib.hid hk9
                have HT9 := Lib.hid hT9
                clear hk9 hT9 hF
                go_wp2_with fail
                rw [Exit.noGoto_ret]
                go_ret
                exact ⟨ret_int HF.out.symm, HK9.out, HT9.out⟩
              · have hze : bodyE nf kj bl[q] = 0 := by simpa using hz
                rw [hze]
                have HBN := Lib.hid (show blocksE nf kj bl = blocksE nf kj (bl.drop (q + 1)) from HBS.out.trans (by rw [if_neg (by simp [hze])]))
                have HNN := Lib.hid (show nn2 + 2 * szA bl[q] + 2 * szL (bl.drop (q + 1)) ≤ nn + 2 * szL bl from by have h3 := HNq.out; have h4 := HDR.out; omega)
                have HTQ := Lib.hid (HTq.out.trans HTq5.out)
                clear hz hze HBS
                go_wp2_with fail
                go_roundw
                case rel => exact ⟨q + 1, _, by omega, by go_num, rfl, HK5, HTQ, HBN, HNN⟩
                case measure => simp [intOf]; omega
            · have hqe : q = bl.length := by omega
              have hbz : blocksE nf kj bl = 0 := HBq.out.trans (by rw [List.drop_of_length_le (by omega)]; rfl)
              have HO5 := Lib.hid (show out = bodyE nf (x :: kj) (t.tail (j + 1)) from HO4.out.trans (by rw [hbz, if_neg (by simp)]))
              have HNE := Lib.hid (show nn2 ≤ nn + 2 * szL bl from by have := HNq.out; omega)
              have d2 : ¬ (q : Int) < (bl.length : Int) := by omega
              obtain ⟨Wk, hWk⟩ : ∃ Wk, wq.alloc (.cells #[.int .i64 x] 3) = Wk := ⟨_, rfl⟩
              have hbk : Below wq.heap.size wq Wk := by rw [← hWk]; exact (Below.refl _ _).alloc (Nat.le_refl _) _
              have hck : Wk.cell? ⟨wq.heap.size, 0, none⟩ = some (.int .i64 x) := by rw [← hWk, World.cell?_alloc_at _ _ _ _ rfl]; rfl
              have HKW := Lib.hid (HKq.out.below hbk)
              have HKN := Lib.hid (know_any (l := [x]) (A := some ⟨wq.heap.size, 0, none⟩) (c := 1) HKW.out ⟨by simp, .inr ⟨wq.heap.size, 0, rfl, by rw [← hWk]; simp, fun j hj => by
               have : j = 0 := by simp at hj; omega
               subst this
               exact hck⟩⟩ (by simp) (by intro y hy; simp at hy; subst hy; exact HX64.out) (by have h1 := HJ.out.b1; have h2 := HSZ.out; have h3 := HNE.out; simp; omega) (by have h1 := HJ.out.b2; have h2 := HSZ.out; simp; omega) (fun a ha => by cases ha; exact HKW.out.cellNe hck))
              have HTk := Lib.hid (HTw.out.trans (Turned.of_below hbk))
              have HRWk := Lib.hid (own_turned HRWq.out (Turned.of_below hbk) hmW)
              have HHk := Lib.hid ((hbk.block wo.heap.size HSq.out).trans HHq.out)
              have HSk := Lib.hid (Nat.lt_of_lt_of_le HSq.out hbk.size)
              obtain ⟨l0, l1, l2, l3, l4, l5⟩ := HD.out Wk HHk.out
              obtain ⟨o0, o1, o2, o3⟩ := HC.out Wk HTk.out
              obtain ⟨i0, hinf, hz0, hz1, hz2⟩ := info_parts infoI
              have hml : mine.length + 1 ≤ maxLen ∧ (mine.length + 1) * 8 ≤ 140737488355328 := by
               have h1 := HJ.out.b3
               have h2 := HSZ.out
               unfold maxLen
               omega
              obtain ⟨hml1, hml2⟩ := hml
              clear hbk hbz hqe HBq HO4 HHq HRWq
              go_wp2_with fail
              refine HKN.out.mono ?_
              rintro en w6 ⟨rfl, hk6, hT6⟩
              have HK6 := Lib.hid (show KnownIn cb_ mb nf (nn2 + 1) (x :: kj) w6 from hk6)
              have HT6 := Lib.hid (HTk.out.trans hT6)
              have HRW6 := Lib.hid (own_turned HRWk.out hT6 hmW)
              have HH6 := Lib.hid ((hT6.block wo.heap.size HSk.out (by have := hwo; have := HS0.out; simp; omega)).trans HHk.out)
              have HSW := Lib.hid (show W0.heap.size ≤ w6.heap.size from HT6.out.size)
              obtain ⟨s0', s1', s2', s3', s4', s5'⟩ := HD.out w6 HH6.out
              clear hk6 hT6 HKN
              go_wp2_with (at_builtin; refine wpList_append_own_at _ rfl _ _ 30 rfl W0.heap.size 3 i0 (.int .i64 0) 1 8 undI hinf hz0 hz1 hz2 rfl (by decide) _ _ _ rfl (HRW6.out.alloc _) ⟨w6.heap.size, 0, none⟩ 1 1 [.int .i64 x] rfl rfl (cell_one_new _ _ _) (by simp [Value.oneCell']) hml1 hml2 (by rw [World.size_alloc]; exact Nat.le_succ_of_le HSW.out) ?_; intro v' w7 hown' hgrow _ hat)
              have hgrow' := hgrow
              change World.grownBy _ w7 u5.ownBlock at hgrow'
              have hal : Below w6.heap.size w6 (w6.alloc (.cells #[.int .i64 x] 3)) := (Below.refl _ _).alloc (Nat.le_refl _) _
              have HT7 := Lib.hid ((HT6.out.trans (Turned.of_below hal)).grown hgrow' (fun g hg => (HRLT.out g hg).1))
              have HK7 := Lib.hid ((HK6.out.below hal).grown hgrow' (fun g hg => by have := (HRLT.out g hg).1; have := HCM.out; omega))
              have HN := Lib.hid (show CBody cb_ mb nf n kn W0 t out (j + 1) v' w7 (x :: kj) (mine ++ [x]) (nn2 + 1) from
               ⟨HK7.out, HT7.out, HO5.out, fun v => by
                have := HJ.out.cnt v
                simp only [List.count_append, List.count_cons, List.count_nil] at this ⊢
                omega, by rw [List.length_append, List.map_append]; exact hown', fun y hy => by
                rcases List.mem_append.1 hy with hy | hy
                · exact HJ.out.in64 y hy
                · simp at hy; subst hy; exact HX64.out, by have := HJ.out.b1; have := HSZ.out; have := HNE.out; simp; omega, by have := HJ.out.b2; have := HSZ.out; simp; omega, by have := HJ.out.b3; have := HSZ.out; simp; omega⟩)
              clear hgrow hgrow' hat hown' hal
              go_roundw
              case rel => exact ⟨j + 1, _, _, _, by omega, by go_num, rfl, HN⟩
              case measure => simp [intOf]; omega
   · have e2 : ¬ (j : Int) < (T : Int) := by omega
     have ho := HJ.out.out
     rw [HT.out j (by omega)] at ho
     have HO := Lib.hid (show out = (if atomB t.last = false then 2 else if asksB kj t.last = false then 16 else 0) from ho)
     have HAT := Lib.hid (show Calls Tryz.prog 59 #[.agg #[.bool t.last.v, .int .i64 t.last.n]] wo fun e w' => e = .returned (.bool (atomB t.last)) ∧ Below wo.heap.size wo w' from catom_any t.last.v t.last.n wo)
     have HAS := Lib.hid (fun (V : World) (hV : Below wo.heap.size wo V) => casks_any (HJ.out.known.below hV) t.last HLR.out)
     have HEN := Lib.hid (fun (V : World) (hV : Below wo.heap.size wo V) => HEND.out V kj mine nn u5 (HJ.out.known.below hV) (HJ.out.turn.trans (Turned.of_below hV)) HJ.out.cnt (own_turned HJ.out.row (Turned.of_below hV) hmW) HJ.out.in64 (by have := HJ.out.b1; omega) (by have := HJ.out.b3; omega))
     have HCC := Lib.hid (fun (V : World) (hV : Below wo.heap.size wo V) => HC.out V (HJ.out.turn.trans (Turned.of_below hV)))
     clear ho
     go_wp2_with fail
     refine HAT.out.mono ?_
     rintro en w2 ⟨rfl, hb2⟩
     obtain ⟨p0, p1, p2, p3⟩ := HCC.out w2 hb2
     have HB2 := Lib.hid hb2
     clear hb2
     cases h1 : atomB t.last
     · have HF := Lib.hid (show out = 2 from HO.out.trans (by rw [if_pos h1]))
       obtain ⟨A', c', rfl, hF⟩ := HEN.out w2 HB2.out
       go_wp2_with fail
       refine hF.mono ?_
       rintro en w9 ⟨rfl, hk9, hT9⟩
       have HK9 := Lib.hid hk9
       have HT9 := Lib.hid hT9
       clear hk9 hT9 hF
       go_wp2_with fail
       rw [Exit.noGoto_ret]
       go_ret
       exact ⟨ret_int HF.out.symm, HK9.out, HT9.out⟩
     · have HA2 := Lib.hid (HAS.out w2 HB2.out)
       go_wp2_with fail
       refine HA2.out.mono ?_
       rintro en w3 ⟨rfl, hb3⟩
       have hb3' := HB2.out.trans (hb3.mono HB2.out.size)
       obtain ⟨p0', p1', p2', p3'⟩ := HCC.out w3 hb3'
       obtain ⟨A', c', rfl, hF⟩ := HEN.out w3 hb3'
       clear hb3 hb3'
       cases h2 : asksB kj t.last
       · have HF := Lib.hid (show out = 16 from HO.out.trans (by rw [if_neg (by rw [h1]; decide), if_pos h2]))
         go_wp2_with fail
         refine hF.mono ?_
         rintro en w9 ⟨rfl, hk9, hT9⟩
         have HK9 := Lib.hid hk9
         have HT9 := Lib.hid hT9
         clear hk9 hT9 hF
         go_wp2_with fail
         rw [Exit.noGoto_ret]
         go_ret
         exact ⟨ret_int HF.out.symm, HK9.out, HT9.out⟩
       · have HF := Lib.hid (show out = 0 from HO.out.trans (by rw [if_neg (by rw [h1]; decide), if_neg (by rw [h2]; decide)]))
         go_wp2_with fail
         refine hF.mono ?_
         rintro en w9 ⟨rfl, hk9, hT9⟩
         have HK9 := Lib.hid hk9
         have HT9 := Lib.hid hT9
         clear hk9 hT9 hF
         go_wp2_with fail
         rw [Exit.noGoto_ret]
         go_ret
         exact ⟨ret_int HF.out.symm, HK9.out, HT9.out⟩
end
end Go.Proofs.YtnobggabjpcbfaaGreat
