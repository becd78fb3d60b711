/-
  7 texts of this seat in one: D11 D12 D13 D14 B0 B1 B3.
-/
import Derived.Test.YtnobggabjpcbfaaQF3
import Derived.Test.YtnobggabjpcbfaaRows
import Derived.Carry
import Derived.ProofKit
import Derived.OpenShut
import Derived.Deep.DeepHandedRow
import Derived.ChangeArms
/-
  clos: a body.
-/
set_option linter.unusedVariables false
set_option linter.unusedSimpArgs false
namespace Go.Proofs.Ytnobggabjpcbfaa
open Go.RowKit Go.Maps

/-- what stands behind some binds -/
structure CBody (cb_ mb nf n : Nat) (kn : List Int) (W0 : World) (t : Anf) (out : Int) (j : Nat) (mv : Value) (wr : World) (kj mine : List Int) (nn : Nat) : Prop where
  known : KnownIn cb_ mb nf nn kj wr
  turn : Turned mb W0 wr
  out : out = bodyE nf kj (t.tail j)
  cnt : ∀ v, (mine ++ kn).count v = kj.count v
  row : wr.ownsRow W0.heap.size 3 1 mv mine.length (mine.map (Value.int .i64))
  in64 : ∀ x ∈ mine, In64 x
  b1 : nn + 2 * szA (t.tail j) + mine.length ≤ n + 2 * szA t
  b2 : kj.length + szA (t.tail j) ≤ kn.length + szA t
  b3 : mine.length + szA (t.tail j) ≤ szA t
theorem own_turned {mb : Nat} {w w' : World} {base : Nat} {e : TypeId} {v : Value} {n : Nat} {xs : List Value} (h : w.ownsRow base e 1 v n xs) (hT : Turned mb w w') (hb : mb < base) : w'.ownsRow base e 1 v n xs := by
  refine h.kept hT ?_
  cases ho : v.ownBlock with
  | none => exact .inl rfl
  | some k => exact .inr (by have := (h.lt k ho).1; simp; omega)
theorem bodyE_bind {nf : Nat} {kn : List Int} {x k n : Int} {ats : List Atm} {ks : List Int} {bl : List Anf} {rest : Anf} (h : bindE nf x k n ats ks bl.length = 0) :
    bodyE nf kn (.bind x k n ats ks bl rest) = if ats.all (asksB (if k = 10 then groupV ks ++ kn else kn)) = false then 16
      else if blocksE nf (if k = 10 then groupV ks ++ kn else kn) bl ≠ 0 then blocksE nf (if k = 10 then groupV ks ++ kn else kn) bl
      else bodyE nf (if k = 10 then groupV ks ++ kn else x :: kn) rest := by
  show (if _ then _ else _) = _
  rw [if_neg (by simp [h])]
theorem bodyE_wrong {nf : Nat} {kn : List Int} {x k n : Int} {ats : List Atm} {ks : List Int} {bl : List Anf} {rest : Anf} (h : bindE nf x k n ats ks bl.length ≠ 0) : bodyE nf kn (.bind x k n ats ks bl rest) = bindE nf x k n ats ks bl.length := by
  show (if _ then _ else _) = _
  rw [if_pos h]
theorem groupV_all {nf : Nat} {x n : Int} {ats : List Atm} {ks : List Int} {nb : Nat} (h : BindOk nf x 10 n ats ks nb) : ∀ y ∈ groupV ks, In64 y := by
  have h2 := h.number
  simp only [numberB, Bool.and_eq_true] at h2
  have h3 := h2.1.1.2
  simp at h3
  exact fun y hy => in64_var (h3 y hy)
theorem bind_var {nf : Nat} {x k n : Int} {ats : List Atm} {ks : List Int} {nb : Nat} (h : BindOk nf x k n ats ks nb) : In64 x := by
  have h2 := h.number
  simp only [numberB, Bool.and_eq_true] at h2
  exact in64_var h2.1.1.1
theorem bind_noblocks {nf : Nat} {x k n : Int} {ats : List Atm} {ks : List Int} {bl : List Anf} (h : BindOk nf x k n ats ks bl.length) (hk : k ≠ 8) : bl = [] := by
  have h1 := h.bare
  simp only [bareB, Bool.and_eq_true] at h1
  have h2 := h1.2
  simp [hasB, hk] at h2
  exact List.length_eq_zero_iff.1 (by simpa using h2)

theorem KnownIn.cellNe {cb_ mb nf n : Nat} {kn : List Int} {W : World} (h : KnownIn cb_ mb nf n kn W) {q o : Nat} {v : Value} (hc : W.cell? ⟨q, o, none⟩ = some v) : q ≠ mb := by
  rintro rfl
  obtain ⟨D, ⟨es, clock, e1, _⟩, _⟩ := h.map
  simp [World.cell?, e1] at hc
theorem KnownIn.grown {cb_ mb nf n : Nat} {kn : List Int} {W V : World} {row : Option Nat} (h : KnownIn cb_ mb nf n kn W) (hg : W.grownBy V row) (hr : ∀ k, row = some k → cb_ < k ∧ mb < k) : KnownIn cb_ mb nf n kn V := by
  refine ⟨(hg.block cb_ h.lt.1 (fun e => by have := (hr cb_ e.symm).1; omega)).trans h.chk, h.ne, ?_⟩
  obtain ⟨D, h1, h2⟩ := h.map
  exact ⟨D, h1.kept hg (fun e => by have := (hr mb e.symm).2; omega), h2⟩
theorem Turned.grown {mb : Nat} {W0 V V2 : World} {row : Option Nat} (h : Turned mb W0 V) (hg : V.grownBy V2 row) (hr : ∀ k, row = some k → W0.heap.size ≤ k) : Turned mb W0 V2 :=
  ⟨hg.os.trans h.os, hg.tape.trans h.tape, hg.output.trans h.output, Nat.le_trans h.size hg.size, fun i hi hn => (hg.block i (Nat.lt_of_lt_of_le hi h.size) (fun e => by have := hr i e.symm; omega)).trans (h.block i hi hn)⟩
theorem addr_add (b o j : Nat) : (⟨b, o, none⟩ : Addr).add j = ⟨b, o + j, none⟩ := by unfold Addr.add; split <;> simp_all

section
variable {cb_ mb nf : Nat}
set_option maxRecDepth 100000 in
set_option maxHeartbeats 8000000 in
theorem cbody_any (hnf : nf ≤ 1000000) {B : Nat} (hBm : B ≤ mb) (t : Anf) : ∀ (n : Nat) (kn : List Int) (W : World) (v : Array Value), BodyIn B W t v → B ≤ W.heap.size → rngA t → KnownIn cb_ mb nf n kn W → n + 2 * szA t ≤ 1000000000 → kn.length + szA t ≤ 1000000000 →
    Calls Try.prog 32 #[.pointer (some ⟨cb_, 0, none⟩), .agg v] W fun e w' => e = .returned (.int .i64 (bodyE nf kn t)) ∧ KnownIn cb_ mb nf (n + 2 * szA t) kn w' ∧ Turned mb W w' := by
  induction hs : SizeOf.sizeOf t using Nat.strongRecOn generalizing t with
  | _ sz ih =>
    subst hs
    intro n kn W v hin hBW hrng hk hn1 hn2
    obtain ⟨A, c, b, o, rfl, hc, h96, hA, hB⟩ := hin.at_
    obtain ⟨Wc, hWc⟩ : ∃ Wc, W.alloc (.cells #[.pointer (some ⟨cb_, 0, none⟩)] 68) = Wc := ⟨_, rfl⟩
    obtain ⟨W0, hW0⟩ : ∃ W0, Wc.alloc (.cells #[.slice A t.len c, .bool t.last.v, .int .i64 t.last.n] 27) = W0 := ⟨_, rfl⟩
    have hsc : Wc.heap.size = W.heap.size + 1 := by rw [← hWc]; simp
    have hb0 : Below W.heap.size W W0 := by rw [← hW0, ← hWc]; exact below_two _ _ _
    have hs0 : W0.heap.size = W.heap.size + 2 := by rw [← hW0, World.size_alloc, hsc]
    have hn0 : W0.heap[W.heap.size]? = some (.cells #[.pointer (some ⟨cb_, 0, none⟩)] 68 (0, 0)) := by rw [← hW0, ← hWc]; exact two_new1 _ _ _
    have hn1' : W0.heap[W.heap.size + 1]? = some (.cells #[.slice A t.len c, .bool t.last.v, .int .i64 t.last.n] 27 (0, 0)) := by rw [← hW0, ← hWc]; exact two_new2 _ _ _
    have hlt := hk.lt
    have HC := Lib.hid (fun (V : World) (hV : Turned mb W0 V) => (show V.cell? ⟨W.heap.size, 0, none⟩ = some (.pointer (some ⟨cb_, 0, none⟩)) ∧ V.cell? ⟨W.heap.size + 1, 0, none⟩ = some (.slice A t.len c) ∧ V.cell? ⟨W.heap.size + 1, 1, none⟩ = some (.bool t.last.v) ∧ V.cell? ⟨W.heap.size + 1, 2, none⟩ = some (.int .i64 t.last.n) from
      ⟨hV.cell (by omega) (by simp [World.cell?, hn0]), hV.cell (by omega) (by simp [World.cell?, hn1']), hV.cell (by omega) (by simp [World.cell?, hn1']), hV.cell (by omega) (by simp [World.cell?, hn1'])⟩))
    obtain ⟨cA, cB, cC, cD⟩ := HC.out W0 (Turned.refl _ _)
    have HBV := Lib.hid (fun (V : World) (hV : Turned mb W0 V) => (show Below B W V from (hb0.mono hBW).trans (hV.below hBm (by omega))))
    have HBI := Lib.hid (fun (j : Nat) (hj : j < t.len) (V : World) (hV : Turned mb W0 V) =>
      (show ∃ x k nn ats ks bl Aa ca Ak ck Al cl, A = some ⟨b, o, none⟩ ∧ t.tail j = .bind x k nn ats ks bl (t.tail (j + 1)) ∧ (V.cell? ⟨b, o + j * 6, none⟩ = some (.int .i64 x) ∧ V.cell? ⟨b, o + j * 6 + 1, none⟩ = some (.int .i64 k) ∧ V.cell? ⟨b, o + j * 6 + 2, none⟩ = some (.int .i64 nn) ∧
          V.cell? ⟨b, o + j * 6 + 3, none⟩ = some (.slice Aa ats.length ca) ∧ V.cell? ⟨b, o + j * 6 + 4, none⟩ = some (.slice Ak ks.length ck) ∧ V.cell? ⟨b, o + j * 6 + 5, none⟩ = some (.slice Al bl.length cl)) ∧
          Hid (∀ V2 : World, Turned mb W0 V2 → AtomsIn V2.heap.size V2 Aa ats ∧ IntsIn V2.heap.size V2 Ak ks) ∧ ats.length ≤ ca ∧ ks.length ≤ ck ∧ bl.length ≤ cl ∧ bl.length * 40 ≤ 140737488351232 ∧ (∀ a ∈ ats, In64 a.n) ∧
          Hid (∀ q (hq : q < bl.length) (V2 : World), Turned mb W0 V2 → ∃ bb oo A0 n0 c0 r0 r1, Al = some ⟨bb, oo, none⟩ ∧ V2.cell? ⟨bb, oo + q * 3, none⟩ = some (.slice A0 n0 c0) ∧ V2.cell? ⟨bb, oo + q * 3 + 1, none⟩ = some (.bool r0) ∧ V2.cell? ⟨bb, oo + q * 3 + 2, none⟩ = some (.int .i64 r1) ∧
            ∀ (V3 : World) (n3 : Nat) (kn3 : List Int), Turned mb W0 V3 → KnownIn cb_ mb nf n3 kn3 V3 → n3 + 2 * szA bl[q] ≤ 1000000000 → kn3.length + szA bl[q] ≤ 1000000000 → Calls Try.prog 32 #[.pointer (some ⟨cb_, 0, none⟩), .agg #[.slice A0 n0 c0, .bool r0, .int .i64 r1]] V3 fun e w' => e = .returned (.int .i64 (bodyE nf kn3 bl[q])) ∧ KnownIn cb_ mb nf (n3 + 2 * szA bl[q]) kn3 w' ∧ Turned mb V3 w') from by
        obtain ⟨x, k, nn, ats, ks, bl, Aa, ca, Ak, ck, Al, cl, h1, h2⟩ := hB j hj
        have hbV := HBV.out V hV
        have hr : rngA (.bind x k nn ats ks bl (t.tail (j + 1))) := by rw [← h1]; exact rngA_tail hrng j
        unfold rngA at hr
        refine ⟨x, k, nn, ats, ks, bl, Aa, ca, Ak, ck, Al, cl, hA (by omega), h1, ⟨(hbV.cell (p := ⟨_, _, none⟩) h2.lt).trans h2.c0, (hbV.cell (p := ⟨_, _, none⟩) h2.lt).trans h2.c1, (hbV.cell (p := ⟨_, _, none⟩) h2.lt).trans h2.c2, (hbV.cell (p := ⟨_, _, none⟩) h2.lt).trans h2.c3, (hbV.cell (p := ⟨_, _, none⟩) h2.lt).trans h2.c4, (hbV.cell (p := ⟨_, _, none⟩) h2.lt).trans h2.c5⟩,
          Lib.hid (fun V2 hV2 => ⟨(h2.ha.below (HBV.out V2 hV2)).mono (Nat.le_trans hBW (HBV.out V2 hV2).size), (h2.hk.below (HBV.out V2 hV2)).mono (Nat.le_trans hBW (HBV.out V2 hV2).size)⟩), h2.hac, h2.hkc, h2.hlc, h2.hl8, hr.1, Lib.hid (fun q hq V2 hV2 => ?_)⟩
        obtain ⟨bb, oo, g0, g1, g2, e1, e2, e3, e4, e5, hbd⟩ := h2.blk q hq
        have hbV2 := HBV.out V2 hV2
        have hbd0 := hbd
        obtain ⟨A0, d0, b0, o0, hvv, -⟩ := hbd.at_
        simp only [Array.mk.injEq, List.cons.injEq, and_true] at hvv
        obtain ⟨rfl, rfl, rfl⟩ := hvv
        refine ⟨bb, oo, A0, _, d0, _, _, e1, (hbV2.cell (p := ⟨_, _, none⟩) e2).trans e3, (hbV2.cell (p := ⟨_, _, none⟩) e2).trans e4, (hbV2.cell (p := ⟨_, _, none⟩) e2).trans e5, fun V3 n3 kn3 hV3 hk3 hn3 hl3 => ?_⟩
        exact ih _ (size_block h1 (List.getElem_mem hq)) bl[q] rfl n3 kn3 V3 _ (hbd0.kept (HBV.out V3 hV3)) (Nat.le_trans hBW (HBV.out V3 hV3).size) (rngL_at hr.2.1 _ (List.getElem_mem hq)) hk3 hn3 hl3))
    have HT := Lib.hid (Anf.tail_ret t)
    obtain ⟨out, hout⟩ : ∃ o, bodyE nf kn t = o := ⟨_, rfl⟩
    have hst : CBody cb_ mb nf n kn W0 t out 0 (.slice none 0 0) W0 kn [] n := ⟨hk.below hb0, Turned.refl _ _, by rw [Anf.tail_zero]; exact hout.symm, fun v => rfl, ⟨by simp, .inl ⟨rfl, rfl⟩⟩, by simp, by rw [Anf.tail_zero]; simp, by rw [Anf.tail_zero]; omega, by rw [Anf.tail_zero]; simp⟩
    have HST := Lib.hid hst
    rw [hout]
    have HLR := Lib.hid (rngA_last hrng)
    have hmW : mb < W0.heap.size := by omega
    have HCM := Lib.hid (show cb_ < W0.heap.size ∧ mb < W0.heap.size from by omega)
    have HS0 := Lib.hid hmW
    -- the way out
    have HEND := Lib.hid (fun (V : World) (kj mine : List Int) (nn : Nat) (mv : Value) (hkn : KnownIn cb_ mb nf nn kj V) (hT : Turned mb W0 V) (hcnt : ∀ v, (mine ++ kn).count v = kj.count v) (hrow : V.ownsRow W0.heap.size 3 1 mv mine.length (mine.map (Value.int .i64))) (h64 : ∀ x ∈ mine, In64 x) (hb1 : nn + mine.length ≤ n + 2 * szA t) (hb3 : mine.length ≤ szA t) =>
      (show ∃ A' c', mv = .slice A' mine.length c' ∧ Calls Try.prog 33 #[.pointer (some ⟨cb_, 0, none⟩), .slice A' mine.length c'] V fun e w' => e = .returned (.tuple #[]) ∧ KnownIn cb_ mb nf (n + 2 * szA t) kn w' ∧ Turned mb W w' from by
        obtain ⟨A', c', rfl, h1, h2⟩ := own_intsD hrow (by omega)
        refine ⟨A', c', rfl, (forget_any (kn := kn) (hkn.count hcnt) h1 h2 h64 (by omega) (by omega) (fun a ha => ?_)).mono fun e w' h => ⟨h.1, h.2.1.mono hb1, (Turned.of_below hb0).trans (hT.trans h.2.2)⟩⟩
        subst ha
        have := (hrow.lt a.block rfl).1
        omega))
    clear hst hout hB hin hk hrng ih hA hn0 hn1' hs0 hb0 hlt
    have hT64 : t.len ≤ 2000000000000 := by omega
    have HZ := Lib.hid (rfl : szA t = szA t)
    obtain ⟨T, hT⟩ : ∃ T, t.len = T := ⟨_, rfl⟩
    rw [hT] at hc h96 hW0 HC HBI HT hT64 cB ⊢
    clear hT h96
    go_enter Try.func32, Try.ntmps32
    go_wp2_with fail
    try go_step3
    go_wp2_with fail
    try go_step3
    go_wp2_with fail
    go_loopw [4, 5, 14] (fun ev mv iv wr => ∃ (j : Nat) (kj mine : List Int) (nn : Nat), j ≤ T ∧ iv = .int .i64 (j : Int) ∧ ev = .int .i64 0 ∧ Hid (CBody cb_ mb nf n kn W0 t out j mv wr kj mine nn)) (fun _ _ iv _ => T + 1 - (intOf iv).toNat)
    case atStart => exact ⟨0, kn, [], n, by omega, rfl, rfl, HST⟩
    case round =>
      obtain ⟨wo, rfl⟩ : ∃ wo, wo = wr := ⟨_, rfl⟩
      obtain ⟨j, kj, mine, nn, hj, rfl, rfl, HJ⟩ := hrel
      obtain ⟨r0, r1, r2, r3⟩ := HC.out wo HJ.out.turn
      by_cases hlt : j < T
      · obtain ⟨x, k, n2, ats, ks, bl, Aa, ca, Ak, ck, Al, cl, rfl, htail, ⟨s0, s1, s2, s3, s4, s5⟩, HLI, hac, hkc, hblc, hb40, hr64, HBL⟩ := HBI.out j hlt wo HJ.out.turn
        have e1 : (0 : Int) ≤ (j : Int) := by omega
        have e2 : (j : Int) < (T : Int) := by omega
        have e4 : IntKind.i64.wrap ((j : Int) + 1) = (j : Int) + 1 := by rw [IntKind.wrap_i64]; omega
        have e5 : (T : Int) ≤ (c : Int) := by omega
        obtain ⟨W1, hW1⟩ : ∃ W1, wo.alloc (.cells #[.int .i64 x, .int .i64 k, .int .i64 n2, .slice Aa ats.length ca, .slice Ak ks.length ck, .slice Al bl.length cl] 54) = W1 := ⟨_, rfl⟩
        have hb1 : Below wo.heap.size wo W1 := by rw [← hW1]; exact (Below.refl _ _).alloc (Nat.le_refl _) _
        have hnew : W1.heap[wo.heap.size]? = some (.cells #[.int .i64 x, .int .i64 k, .int .i64 n2, .slice Aa ats.length ca, .slice Ak ks.length ck, .slice Al bl.length cl] 54 (0, 0)) := by rw [← hW1]; exact World.alloc_heap_new wo _
        have hwo := HJ.out.turn.size
        have HW1 := Lib.hid (show wo.heap.size < W1.heap.size from by rw [← hW1]; simp)
        have HT1 := Lib.hid (HJ.out.turn.trans (Turned.of_below hb1))
        have HK1 := Lib.hid (HJ.out.known.below hb1)
        have HRW1 := Lib.hid (own_turned HJ.out.row (Turned.of_below hb1) hmW)
        have HRLT := Lib.hid (fun (g : Nat) (hg : u5.ownBlock = some g) => (show W0.heap.size ≤ g ∧ g < wo.heap.size from HJ.out.row.lt g hg))
        have HD := Lib.hid (fun (V : World) (hV : V.heap[wo.heap.size]? = W1.heap[wo.heap.size]?) => (show V.cell? ⟨wo.heap.size, 0, none⟩ = some (.int .i64 x) ∧ V.cell? ⟨wo.heap.size, 1, none⟩ = some (.int .i64 k) ∧ V.cell? ⟨wo.heap.size, 2, none⟩ = some (.int .i64 n2) ∧ V.cell? ⟨wo.heap.size, 3, none⟩ = some (.slice Aa ats.length ca) ∧ V.cell? ⟨wo.heap.size, 4, none⟩ = some (.slice Ak ks.length ck) ∧ V.cell? ⟨wo.heap.size, 5, none⟩ = some (.slice Al bl.length cl) from by
          have h := hV.trans hnew
          exact ⟨by simp [World.cell?, h], by simp [World.cell?, h], by simp [World.cell?, h], by simp [World.cell?, h], by simp [World.cell?, h], by simp [World.cell?, h]⟩))
        obtain ⟨t0, t1, t2, t3, t4, t5⟩ := HD.out W1 rfl
        obtain ⟨v0, v1, v2, v3⟩ := HC.out W1 HT1.out
        have HBD := Lib.hid (cbind_any hnf x k n2 (Al := Al) (nb := bl.length) (cb := cl) HK1.out.chk (HLI.out W1 HT1.out).1 hac (HLI.out W1 HT1.out).2 hkc)
        have HR64 := Lib.hid hr64
        have HOUT := Lib.hid (HJ.out.out.trans (congrArg (bodyE nf kj) htail))
        have HSZ := Lib.hid (show szA (t.tail j) = 1 + ks.length + szL bl + szA (t.tail (j + 1)) from by rw [htail]; rfl)
        clear hb1 hnew htail hr64
        go_wp2_with fail
        refine HBD.out.mono ?_
        rintro en w2 ⟨rfl, hb2⟩
        have HK2 := Lib.hid (HK1.out.below hb2)
        have HT2 := Lib.hid (HT1.out.trans (Turned.of_below hb2))
        have HRW2 := Lib.hid (own_turned HRW1.out (Turned.of_below hb2) hmW)
        have HH2 := Lib.hid (hb2.block wo.heap.size HW1.out)
        have HS2 := Lib.hid (Nat.lt_of_lt_of_le HW1.out hb2.size)
        obtain ⟨x0, x1, x2, x3, x4, x5⟩ := HD.out w2 HH2.out
        obtain ⟨y0, y1, y2, y3⟩ := HC.out w2 HT2.out
        clear hb2 t0 t1 t2 t3 t4 t5 v0 v1 v2 v3 HBD
        cases hbe : (bindE nf x k n2 ats ks bl.length == 0)
        · have hne : bindE nf x k n2 ats ks bl.length ≠ 0 := by simpa using hbe
          have HF := Lib.hid (show out = bindE nf x k n2 ats ks bl.length from HOUT.out.trans (bodyE_wrong hne))
          obtain ⟨A', c', rfl, hF⟩ := HEND.out w2 kj mine nn u5 HK2.out HT2.out HJ.out.cnt HRW2.out HJ.out.in64 (by have := HJ.out.b1; omega) (by have := HJ.out.b3; omega)
          clear hne
          go_wp2_with fail
          refine hF.mono ?_
          rintro en w9 ⟨rfl, hk9, hT9⟩
          have HK9 := Lib.hid hk9
          have HT9 := Lib.hid hT9
          clear hk9 hT9 hF
          go_wp2_with fail
          rw [Exit.noGoto_ret]
          go_ret
          exact ⟨ret_int HF.out.symm, HK9.out, HT9.out⟩
        · have hz : bindE nf x k n2 ats ks bl.length = 0 := by simpa using hbe
          have hok := bindOk_of hz
          rw [hz]
          have HO2 := Lib.hid (HOUT.out.trans (bodyE_bind hz))
          clear hz hbe HOUT
          by_cases hk10 : k = 10
          · subst hk10
            obtain rfl := bind_noblocks hok (by decide)
            obtain ⟨-, hk3, -⟩ := hok.group
            have HG64 := Lib.hid (groupV_all hok)
            have HGR := Lib.hid (cgroup_any 10 n2 Aa Ak Al ats.length ca ck ([] : List Anf).length cl ks w2 (HLI.out w2 HT2.out).2 hkc)
            have HGL := Lib.hid (groupV_len ks)
            clear hok
            have HO3 := Lib.hid (show out = (if ats.all (asksB (groupV ks ++ kj)) = false then 16 else bodyE nf (groupV ks ++ kj) (t.tail (j + 1))) from HO2.out.trans (by simp [blocksE]))
            clear HO2
            generalize hG : groupV ks = G at *
            clear hG
            go_wp2_with fail
            refine HGR.out.mono ?_
            rintro en w3 ⟨Ag, cg, rfl, hi, hgc, hb3⟩
            have hgl := HGL.out
            obtain ⟨gb, go_, rfl, hgb, hgcell⟩ := hi.at_ (by omega)
            have HK3 := Lib.hid (HK2.out.below hb3)
            have HT3 := Lib.hid (HT2.out.trans (Turned.of_below hb3))
            have HRW3 := Lib.hid (own_turned HRW2.out (Turned.of_below hb3) hmW)
            have HH3 := Lib.hid ((hb3.block wo.heap.size HS2.out).trans HH2.out)
            have HS3 := Lib.hid (Nat.lt_of_lt_of_le HS2.out hb3.size)
            have hgm : gb ≠ mb := HK3.out.cellNe (hgcell 0 (by omega))
            have hb1' := HJ.out.b1
            have hb2' := HJ.out.b2
            have hb3' := HJ.out.b3
            have hsz := HSZ.out
            have HKN := Lib.hid (know_any HK3.out hi hgc HG64.out (by omega) (by omega) (fun a ha => by cases ha; exact hgm))
            have HGC := Lib.hid hgcell
            have HGM := Lib.hid hgm
            obtain ⟨y0', y1', y2', y3'⟩ := HC.out w3 HT3.out
            clear hb3 hi hgcell hgm HGR x0 x1 x2 x3 x4 x5 y0 y1 y2 y3 hb1' hb2' hb3' hsz
            have HASKF := Lib.hid (fun (V : World) (hkV : KnownIn cb_ mb nf (nn + G.length) (G ++ kj) V) (hTV : Turned mb W0 V) => asked_any hkV (HC.out V hTV).1 (HLI.out V hTV).1 hac HR64.out)
            have hml : mine.length + G.length ≤ maxLen ∧ (mine.length + G.length) * 8 ≤ 140737488355328 := by
              have h1 := HJ.out.b3
              have h2 := HSZ.out
              unfold maxLen
              omega
            obtain ⟨hml1, hml2⟩ := hml
            clear hgl
            obtain ⟨i0, hinf, hz0, hz1, hz2⟩ := info_parts infoI
            go_wp2_with fail
            refine HKN.out.mono ?_
            rintro en w4 ⟨rfl, hk4, hT4⟩
            have HK4 := Lib.hid hk4
            have HT4 := Lib.hid (HT3.out.trans hT4)
            have HRW4 := Lib.hid (own_turned HRW3.out hT4 hmW)
            have HH4 := Lib.hid ((hT4.block wo.heap.size HS3.out (by have := hwo; simp; omega)).trans HH3.out)
            have HS4 := Lib.hid (Nat.lt_of_lt_of_le HS3.out hT4.size)
            have HNW := Lib.hid (show ∀ q u, (G.map (Value.int .i64))[q]? = some u → w4.cell? ((⟨gb, go_, none⟩ : Addr).add q) = some u from fun q u hq => by
              rw [addr_add]
              simp only [List.getElem?_map, Option.map_eq_some_iff] at hq
              obtain ⟨z, hz, rfl⟩ := hq
              have hql := (List.getElem?_eq_some_iff.1 hz).1
              have := hT4.cell HGM.out (HGC.out q hql)
              rw [nth_eq _ hql] at this
              rw [this]
              rw [List.getElem?_eq_getElem hql] at hz
              cases hz; rfl)
            have HSW := Lib.hid (Nat.le_trans HT3.out.size hT4.size)
            clear hk4 hT4
            go_wp2_with (at_builtin; refine wpList_append_own_at _ rfl _ _ 30 rfl W0.heap.size 3 i0 (.int .i64 0) 1 8 undI hinf hz0 hz1 hz2 rfl (by decide) _ _ _ rfl HRW4.out ⟨gb, go_, none⟩ G.length cg (G.map (Value.int .i64)) rfl (by simp) HNW.out (by simp [Value.oneCell']) hml1 hml2 HSW.out ?_; intro v' w5 hown' hgrow _ hat; obtain ⟨z0, z1, z2, z3, z4, z5⟩ := HD.out w5 ((hgrow.block wo.heap.size HS4.out (fun e => by have := (HRLT.out wo.heap.size e.symm).2; omega)).trans HH4.out))
            have hgrow' := hgrow
            change World.grownBy _ w5 u5.ownBlock at hgrow'
            have HT5 := Lib.hid (HT4.out.grown hgrow' (fun g hg => (HRLT.out g hg).1))
            have HK5 := Lib.hid (HK4.out.grown hgrow' (fun g hg => by have := (HRLT.out g hg).1; have := HCM.out; omega))
            have HRW5 := Lib.hid (show w5.ownsRow W0.heap.size 3 1 v' (mine ++ G).length ((mine ++ G).map (Value.int .i64)) from by rw [List.length_append, List.map_append]; exact hown')
            have HH5 := Lib.hid ((hgrow'.block wo.heap.size HS4.out (fun e => by have := (HRLT.out wo.heap.size e.symm).2; omega)).trans HH4.out)
            have HS5 := Lib.hid (Nat.lt_of_lt_of_le HS4.out hgrow'.size)
            clear hgrow hgrow' hat hown' HNW HKN
            refine (HASKF.out w5 HK5.out HT5.out).mono ?_
            rintro en w6 ⟨rfl, hb6⟩
            have HK6 := Lib.hid (HK5.out.below hb6)
            have HT6 := Lib.hid (HT5.out.trans (Turned.of_below hb6))
            have HRW6 := Lib.hid (own_turned HRW5.out (Turned.of_below hb6) hmW)
            have HH6 := Lib.hid ((hb6.block wo.heap.size HS5.out).trans HH5.out)
            have HCNT := Lib.hid (show ∀ v, ((mine ++ G) ++ kn).count v = (G ++ kj).count v from fun v => by
              have := HJ.out.cnt v
              simp only [List.count_append] at this ⊢
              omega)
            have HM64 := Lib.hid (show ∀ y ∈ mine ++ G, In64 y from fun y hy => by
              rcases List.mem_append.1 hy with hy | hy
              · exact HJ.out.in64 y hy
              · exact HG64.out y hy)
            obtain ⟨x0, x1, x2, x3, x4, x5⟩ := HD.out w6 HH6.out
            obtain ⟨y0, y1, y2, y3⟩ := HC.out w6 HT6.out
            clear hb6 z0 z1 z2 z3 z4 z5
            cases hall : ats.all (asksB (G ++ kj))
            · have HF := Lib.hid (show out = 16 from HO3.out.trans (by rw [if_pos hall]))
              obtain ⟨A', c', rfl, hF⟩ := HEND.out w6 (G ++ kj) (mine ++ G) (nn + G.length) v' HK6.out HT6.out HCNT.out HRW6.out HM64.out (by have := HJ.out.b1; have := HSZ.out; have := HGL.out; simp; omega) (by have := HJ.out.b3; have := HSZ.out; have := HGL.out; simp; omega)
              rw [List.length_append] at hF
              go_wp2_with fail
              refine hF.mono ?_
              rintro en w9 ⟨rfl, hk9, hT9⟩
              have HK9 := Lib.hid hk9
              have HT9 := Lib.hid hT9
              clear hk9 hT9 hF
              go_wp2_with fail
              rw [Exit.noGoto_ret]
              go_ret
              exact ⟨ret_int HF.out.symm, HK9.out, HT9.out⟩
            · have HO4 := Lib.hid (show out = bodyE nf (G ++ kj) (t.tail (j + 1)) from HO3.out.trans (by rw [if_neg (by rw [hall]; decide)]))
              have HN := Lib.hid (show CBody cb_ mb nf n kn W0 t out (j + 1) v' w6 (G ++ kj) (mine ++ G) (nn + G.length) from
                ⟨HK6.out, HT6.out, HO4.out, HCNT.out, HRW6.out, HM64.out, by have := HJ.out.b1; have := HSZ.out; have := HGL.out; simp; omega, by have := HJ.out.b2; have := HSZ.out; have := HGL.out; simp; omega, by have := HJ.out.b3; have := HSZ.out; have := HGL.out; simp; omega⟩)
              go_wp2_with fail
              refine wp_loop_rounds 1 ?_
              rw [rounds_succ]
              go_wp2_with fail
              go_roundw
              case rel => exact ⟨j + 1, _, _, _, by omega, by go_num, rfl, HN⟩
              case measure => simp [intOf]; omega
          · have hkb : (k == 10) = false := by simpa using hk10
            have hkn : (k != 10) = true := by simpa using hk10
            have HX64 := Lib.hid (bind_var hok)
            have HO3 := Lib.hid (show out = (if ats.all (asksB kj) = false then 16 else if blocksE nf kj bl ≠ 0 then blocksE nf kj bl else bodyE nf (x :: kj) (t.tail (j + 1))) from HO2.out.trans (by simp [hk10]))
            have HASK := Lib.hid (asked_any HK2.out (HC.out w2 HT2.out).1 (HLI.out w2 HT2.out).1 hac HR64.out)
            clear hok HO2
            go_wp2_with fail
            refine HASK.out.mono ?_
            rintro en w3 ⟨rfl, hb3⟩
            have HK3 := Lib.hid (HK2.out.below hb3)
            have HT3 := Lib.hid (HT2.out.trans (Turned.of_below hb3))
            have HRW3 := Lib.hid (own_turned HRW2.out (Turned.of_below hb3) hmW)
            have HH3 := Lib.hid ((hb3.block wo.heap.size HS2.out).trans HH2.out)
            have HS3 := Lib.hid (Nat.lt_of_lt_of_le HS2.out hb3.size)
            obtain ⟨z0, z1, z2, z3, z4, z5⟩ := HD.out w3 HH3.out
            obtain ⟨a0, a1, a2, a3⟩ := HC.out w3 HT3.out
            clear hb3 HASK x0 x1 x2 x3 x4 x5 y0 y1 y2 y3
            cases hall : ats.all (asksB kj)
            · have HF := Lib.hid (show out = 16 from HO3.out.trans (by rw [if_pos hall]))
              obtain ⟨A', c', rfl, hF⟩ := HEND.out w3 kj mine nn u5 HK3.out HT3.out HJ.out.cnt HRW3.out HJ.out.in64 (by have := HJ.out.b1; omega) (by have := HJ.out.b3; omega)
              go_wp2_with fail
              refine hF.mono ?_
              rintro en w9 ⟨rfl, hk9, hT9⟩
              have HK9 := Lib.hid hk9
              have HT9 := Lib.hid hT9
              clear hk9 hT9 hF
              go_wp2_with fail
              rw [Exit.noGoto_ret]
              go_ret
              exact ⟨ret_int HF.out.symm, HK9.out, HT9.out⟩
            · have HO4 := Lib.hid (show out = (if blocksE nf kj bl ≠ 0 then blocksE nf kj bl else bodyE nf (x :: kj) (t.tail (j + 1))) from HO3.out.trans (by rw [if_neg (by rw [hall]; decide)]))
              clear HO3 hall
              go_wp2_with fail
              go_loopw [4, 45] (fun ev iv wr2 => ∃ (q nn2 : Nat), q ≤ bl.length ∧ iv = .int .i64 (q : Int) ∧ ev = .int .i64 0 ∧ Hid (KnownIn cb_ mb nf nn2 kj wr2) ∧ Hid (Turned mb w3 wr2) ∧ Hid (blocksE nf kj bl = blocksE nf kj (bl.drop q)) ∧ Hid (nn2 + 2 * szL (bl.drop q) ≤ nn + 2 * szL bl)) (fun _ iv _ => bl.length + 1 - (intOf iv).toNat)
              case atStart => exact ⟨0, nn, by omega, rfl, rfl, HK3, Lib.hid (Turned.refl _ _), Lib.hid (by simp), Lib.hid (by simp)⟩
              case round =>
                obtain ⟨wq, rfl⟩ : ∃ wq, wq = wr := ⟨_, rfl⟩
                obtain ⟨q, nn2, hq, rfl, rfl, HKq, HTq, HBq, HNq⟩ := hrel
                have HTw := Lib.hid (HT3.out.trans HTq.out)
                have HRWq := Lib.hid (own_turned HRW3.out HTq.out hmW)
                have HHq := Lib.hid ((HTq.out.block wo.heap.size HS3.out (by have := hwo; have := HS0.out; simp; omega)).trans HH3.out)
                have HSq := Lib.hid (Nat.lt_of_lt_of_le HS3.out HTq.out.size)
                obtain ⟨f0, f1, f2, f3, f4, f5⟩ := HD.out wq HHq.out
                obtain ⟨g0, g1, g2, g3⟩ := HC.out wq HTw.out
                by_cases hlq : q < bl.length
                · obtain ⟨bb, oo, A0, n0, c0', r0', r1', rfl, p0, p1, p2, hcall⟩ := HBL.out q hlq wq HTw.out
                  obtain ⟨W4, hW4⟩ : ∃ W4, wq.alloc (.cells #[.slice A0 n0 c0', .bool r0', .int .i64 r1'] 27) = W4 := ⟨_, rfl⟩
                  have hb4 : Below wq.heap.size wq W4 := by rw [← hW4]; exact (Below.refl _ _).alloc (Nat.le_refl _) _
                  have m0 : W4.cell? ⟨wq.heap.size, 0, none⟩ = some (.slice A0 n0 c0') := by rw [← hW4, World.cell?_alloc_at _ _ _ _ rfl]; rfl
                  have m1 : W4.cell? ⟨wq.heap.size, 1, none⟩ = some (.bool r0') := by rw [← hW4, World.cell?_alloc_at _ _ _ _ rfl]; rfl
                  have m2 : W4.cell? ⟨wq.heap.size, 2, none⟩ = some (.int .i64 r1') := by rw [← hW4, World.cell?_alloc_at _ _ _ _ rfl]; rfl
                  have HT4 := Lib.hid (HTw.out.trans (Turned.of_below hb4))
                  obtain ⟨b0', b1', b2', b3'⟩ := HC.out W4 HT4.out
                  have hdrop := szL_drop hlq
                  have HDR := Lib.hid hdrop
                  have HCALL := Lib.hid (hcall W4 nn2 kj HT4.out (HKq.out.below hb4) (by have h1 := HJ.out.b1; have h2 := HSZ.out; have h3 := HNq.out; omega) (by have h1 := HJ.out.b2; have h2 := HSZ.out; have h3 := szL_at (bl := bl) _ (List.getElem_mem hlq); omega))
                  have HBS := Lib.hid (HBq.out.trans (blocksE_drop hlq))
                  have d1 : (0 : Int) ≤ (q : Int) := by omega
                  have d2 : (q : Int) < (bl.length : Int) := by omega
                  have d3 : (bl.length : Int) ≤ (cl : Int) := by omega
                  have d4 : IntKind.i64.wrap ((q : Int) + 1) = (q : Int) + 1 := by rw [IntKind.wrap_i64]; omega
                  have HB4 := Lib.hid hb4
                  clear hcall hb4 hdrop
                  go_wp2_with fail
                  refine HCALL.out.mono ?_
                  rintro en w5 ⟨rfl, hk5, hT5⟩
                  have HK5 := Lib.hid hk5
                  have HTq5 := Lib.hid ((Turned.of_below HB4.out).trans hT5)
                  have HT5 := Lib.hid (HTw.out.trans HTq5.out)
                  obtain ⟨b4', b5', b6', b7'⟩ := HC.out w5 HT5.out
                  have HRW5 := Lib.hid (own_turned HRWq.out HTq5.out hmW)
                  clear hk5 hT5 HCALL
                  cases hz : (bodyE nf kj bl[q] == 0)
                  · have hne : bodyE nf kj bl[q] ≠ 0 := by simpa using hz
                    have hbe : blocksE nf kj bl = bodyE nf kj bl[q] := HBS.out.trans (by rw [if_pos hne])
                    have HF := Lib.hid (show out = bodyE nf kj bl[q] from HO4.out.trans (by rw [hbe, if_pos hne]))
                    obtain ⟨A', c', rfl, hF⟩ := HEND.out w5 kj mine (nn2 + 2 * szA bl[q]) u5 HK5.out HT5.out HJ.out.cnt HRW5.out HJ.out.in64 (by have h1 := HJ.out.b1; have h2 := HSZ.out; have h3 := HNq.out; have h4 := HDR.out; omega) (by have := HJ.out.b3; omega)
                    clear hne hbe
                    generalize bodyE nf kj bl[q] = ev at *
                    go_wp2_with fail
                    refine hF.mono ?_
                    rintro en w9 ⟨rfl, hk9, hT9⟩
                    have HK9 := Lib.hid hk9
                    have HT9 := Lib.hid hT9
                    clear hk9 hT9 hF
                    go_wp2_with fail
                    rw [Exit.noGoto_ret]
                    go_ret
                    exact ⟨ret_int HF.out.symm, HK9.out, HT9.out⟩
                  · have hze : bodyE nf kj bl[q] = 0 := by simpa using hz
                    rw [hze]
                    have HBN := Lib.hid (show blocksE nf kj bl = blocksE nf kj (bl.drop (q + 1)) from HBS.out.trans (by rw [if_neg (by simp [hze])]))
                    have HNN := Lib.hid (show nn2 + 2 * szA bl[q] + 2 * szL (bl.drop (q + 1)) ≤ nn + 2 * szL bl from by have h3 := HNq.out; have h4 := HDR.out; omega)
                    have HTQ := Lib.hid (HTq.out.trans HTq5.out)
                    clear hz hze HBS
                    go_wp2_with fail
                    go_roundw
                    case rel => exact ⟨q + 1, _, by omega, by go_num, rfl, HK5, HTQ, HBN, HNN⟩
                    case measure => simp [intOf]; omega
                · have hqe : q = bl.length := by omega
                  have hbz : blocksE nf kj bl = 0 := HBq.out.trans (by rw [List.drop_of_length_le (by omega)]; rfl)
                  have HO5 := Lib.hid (show out = bodyE nf (x :: kj) (t.tail (j + 1)) from HO4.out.trans (by rw [hbz, if_neg (by simp)]))
                  have HNE := Lib.hid (show nn2 ≤ nn + 2 * szL bl from by have := HNq.out; omega)
                  have d2 : ¬ (q : Int) < (bl.length : Int) := by omega
                  obtain ⟨Wk, hWk⟩ : ∃ Wk, wq.alloc (.cells #[.int .i64 x] 3) = Wk := ⟨_, rfl⟩
                  have hbk : Below wq.heap.size wq Wk := by rw [← hWk]; exact (Below.refl _ _).alloc (Nat.le_refl _) _
                  have hck : Wk.cell? ⟨wq.heap.size, 0, none⟩ = some (.int .i64 x) := by rw [← hWk, World.cell?_alloc_at _ _ _ _ rfl]; rfl
                  have HKW := Lib.hid (HKq.out.below hbk)
                  have HKN := Lib.hid (know_any (l := [x]) (A := some ⟨wq.heap.size, 0, none⟩) (c := 1) HKW.out ⟨by simp, .inr ⟨wq.heap.size, 0, rfl, by rw [← hWk]; simp, fun j hj => by
                    have : j = 0 := by simp at hj; omega
                    subst this
                    exact hck⟩⟩ (by simp) (by intro y hy; simp at hy; subst hy; exact HX64.out) (by have h1 := HJ.out.b1; have h2 := HSZ.out; have h3 := HNE.out; simp; omega) (by have h1 := HJ.out.b2; have h2 := HSZ.out; simp; omega) (fun a ha => by cases ha; exact HKW.out.cellNe hck))
                  have HTk := Lib.hid (HTw.out.trans (Turned.of_below hbk))
                  have HRWk := Lib.hid (own_turned HRWq.out (Turned.of_below hbk) hmW)
                  have HHk := Lib.hid ((hbk.block wo.heap.size HSq.out).trans HHq.out)
                  have HSk := Lib.hid (Nat.lt_of_lt_of_le HSq.out hbk.size)
                  obtain ⟨l0, l1, l2, l3, l4, l5⟩ := HD.out Wk HHk.out
                  obtain ⟨o0, o1, o2, o3⟩ := HC.out Wk HTk.out
                  obtain ⟨i0, hinf, hz0, hz1, hz2⟩ := info_parts infoI
                  have hml : mine.length + 1 ≤ maxLen ∧ (mine.length + 1) * 8 ≤ 140737488355328 := by
                    have h1 := HJ.out.b3
                    have h2 := HSZ.out
                    unfold maxLen
                    omega
                  obtain ⟨hml1, hml2⟩ := hml
                  clear hbk hbz hqe HBq HO4 HHq HRWq
                  go_wp2_with fail
                  refine HKN.out.mono ?_
                  rintro en w6 ⟨rfl, hk6, hT6⟩
                  have HK6 := Lib.hid (show KnownIn cb_ mb nf (nn2 + 1) (x :: kj) w6 from hk6)
                  have HT6 := Lib.hid (HTk.out.trans hT6)
                  have HRW6 := Lib.hid (own_turned HRWk.out hT6 hmW)
                  have HH6 := Lib.hid ((hT6.block wo.heap.size HSk.out (by have := hwo; have := HS0.out; simp; omega)).trans HHk.out)
                  have HSW := Lib.hid (show W0.heap.size ≤ w6.heap.size from HT6.out.size)
                  obtain ⟨s0', s1', s2', s3', s4', s5'⟩ := HD.out w6 HH6.out
                  clear hk6 hT6 HKN
                  go_wp2_with (at_builtin; refine wpList_append_own_at _ rfl _ _ 30 rfl W0.heap.size 3 i0 (.int .i64 0) 1 8 undI hinf hz0 hz1 hz2 rfl (by decide) _ _ _ rfl (HRW6.out.alloc _) ⟨w6.heap.size, 0, none⟩ 1 1 [.int .i64 x] rfl rfl (cell_one_new _ _ _) (by simp [Value.oneCell']) hml1 hml2 (by rw [World.size_alloc]; exact Nat.le_succ_of_le HSW.out) ?_; intro v' w7 hown' hgrow _ hat)
                  have hgrow' := hgrow
                  change World.grownBy _ w7 u5.ownBlock at hgrow'
                  have hal : Below w6.heap.size w6 (w6.alloc (.cells #[.int .i64 x] 3)) := (Below.refl _ _).alloc (Nat.le_refl _) _
                  have HT7 := Lib.hid ((HT6.out.trans (Turned.of_below hal)).grown hgrow' (fun g hg => (HRLT.out g hg).1))
                  have HK7 := Lib.hid ((HK6.out.below hal).grown hgrow' (fun g hg => by have := (HRLT.out g hg).1; have := HCM.out; omega))
                  have HN := Lib.hid (show CBody cb_ mb nf n kn W0 t out (j + 1) v' w7 (x :: kj) (mine ++ [x]) (nn2 + 1) from
                    ⟨HK7.out, HT7.out, HO5.out, fun v => by
                      have := HJ.out.cnt v
                      simp only [List.count_append, List.count_cons, List.count_nil] at this ⊢
                      omega, by rw [List.length_append, List.map_append]; exact hown', fun y hy => by
                      rcases List.mem_append.1 hy with hy | hy
                      · exact HJ.out.in64 y hy
                      · simp at hy; subst hy; exact HX64.out, by have := HJ.out.b1; have := HSZ.out; have := HNE.out; simp; omega, by have := HJ.out.b2; have := HSZ.out; simp; omega, by have := HJ.out.b3; have := HSZ.out; simp; omega⟩)
                  clear hgrow hgrow' hat hown' hal
                  go_roundw
                  case rel => exact ⟨j + 1, _, _, _, by omega, by go_num, rfl, HN⟩
                  case measure => simp [intOf]; omega
      · have e2 : ¬ (j : Int) < (T : Int) := by omega
        have ho := HJ.out.out
        rw [HT.out j (by omega)] at ho
        have HO := Lib.hid (show out = (if atomB t.last = false then 2 else if asksB kj t.last = false then 16 else 0) from ho)
        have HAT := Lib.hid (show Calls Try.prog 49 #[.agg #[.bool t.last.v, .int .i64 t.last.n]] wo fun e w' => e = .returned (.bool (atomB t.last)) ∧ Below wo.heap.size wo w' from catom_any t.last.v t.last.n wo)
        have HAS := Lib.hid (fun (V : World) (hV : Below wo.heap.size wo V) => casks_any (HJ.out.known.below hV) t.last HLR.out)
        have HEN := Lib.hid (fun (V : World) (hV : Below wo.heap.size wo V) => HEND.out V kj mine nn u5 (HJ.out.known.below hV) (HJ.out.turn.trans (Turned.of_below hV)) HJ.out.cnt (own_turned HJ.out.row (Turned.of_below hV) hmW) HJ.out.in64 (by have := HJ.out.b1; omega) (by have := HJ.out.b3; omega))
        have HCC := Lib.hid (fun (V : World) (hV : Below wo.heap.size wo V) => HC.out V (HJ.out.turn.trans (Turned.of_below hV)))
        clear ho
        go_wp2_with fail
        refine HAT.out.mono ?_
        rintro en w2 ⟨rfl, hb2⟩
        obtain ⟨p0, p1, p2, p3⟩ := HCC.out w2 hb2
        have HB2 := Lib.hid hb2
        clear hb2
        cases h1 : atomB t.last
        · have HF := Lib.hid (show out = 2 from HO.out.trans (by rw [if_pos h1]))
          obtain ⟨A', c', rfl, hF⟩ := HEN.out w2 HB2.out
          go_wp2_with fail
          refine hF.mono ?_
          rintro en w9 ⟨rfl, hk9, hT9⟩
          have HK9 := Lib.hid hk9
          have HT9 := Lib.hid hT9
          clear hk9 hT9 hF
          go_wp2_with fail
          rw [Exit.noGoto_ret]
          go_ret
          exact ⟨ret_int HF.out.symm, HK9.out, HT9.out⟩
        · have HA2 := Lib.hid (HAS.out w2 HB2.out)
          go_wp2_with fail
          refine HA2.out.mono ?_
          rintro en w3 ⟨rfl, hb3⟩
          have hb3' := HB2.out.trans (hb3.mono HB2.out.size)
          obtain ⟨p0', p1', p2', p3'⟩ := HCC.out w3 hb3'
          obtain ⟨A', c', rfl, hF⟩ := HEN.out w3 hb3'
          clear hb3 hb3'
          cases h2 : asksB kj t.last
          · have HF := Lib.hid (show out = 16 from HO.out.trans (by rw [if_neg (by rw [h1]; decide), if_pos h2]))
            go_wp2_with fail
            refine hF.mono ?_
            rintro en w9 ⟨rfl, hk9, hT9⟩
            have HK9 := Lib.hid hk9
            have HT9 := Lib.hid hT9
            clear hk9 hT9 hF
            go_wp2_with fail
            rw [Exit.noGoto_ret]
            go_ret
            exact ⟨ret_int HF.out.symm, HK9.out, HT9.out⟩
          · have HF := Lib.hid (show out = 0 from HO.out.trans (by rw [if_neg (by rw [h1]; decide), if_neg (by rw [h2]; decide)]))
            go_wp2_with fail
            refine hF.mono ?_
            rintro en w9 ⟨rfl, hk9, hT9⟩
            have HK9 := Lib.hid hk9
            have HT9 := Lib.hid hT9
            clear hk9 hT9 hF
            go_wp2_with fail
            rw [Exit.noGoto_ret]
            go_ret
            exact ⟨ret_int HF.out.symm, HK9.out, HT9.out⟩
end
end Go.Proofs.Ytnobggabjpcbfaa

/-
  clos: size, deep.
-/
set_option linter.unusedVariables false
set_option linter.unusedSimpArgs false
namespace Go.Proofs.Ytnobggabjpcbfaa
open Go.RowKit

mutual
/-- binds in all blocks -/
def totA : Anf → Nat
  | .ret _ => 0
  | .bind _ _ _ _ _ bl r => 1 + totL bl + totA r
def totL : List Anf → Nat
  | [] => 0
  | c :: cs => totA c + totL cs
end
mutual
theorem totA_le : ∀ (t : Anf), totA t ≤ szA t
  | .ret _ => Nat.le_refl _
  | .bind _ _ _ _ ks bl r => by
    have h1 := totL_le bl
    have h2 := totA_le r
    show 1 + totL bl + totA r ≤ 1 + ks.length + szL bl + szA r
    omega
theorem totL_le : ∀ (l : List Anf), totL l ≤ szL l
  | [] => Nat.le_refl _
  | c :: cs => by
    have h1 := totA_le c
    have h2 := totL_le cs
    show totA c + totL cs ≤ szA c + szL cs
    omega
end
/-- what stands in blocks alone -/
def subA : Anf → Nat
  | .ret _ => 0
  | .bind _ _ _ _ _ bl r => totL bl + subA r
theorem subA_len : ∀ (t : Anf), t.len + subA t = totA t
  | .ret _ => rfl
  | .bind _ _ _ _ ks bl r => by
    have h2 := subA_len r
    show r.len + 1 + (totL bl + subA r) = 1 + totL bl + totA r
    omega
mutual
theorem sizeA_le (most : Int) : ∀ (t : Anf) (n : Int), n ≤ sizeA most t n ∧ sizeA most t n ≤ n + subA t
  | .ret _, n => by simp [sizeA, subA]
  | .bind _ _ _ _ _ bl r, n => by
    have h1 := sizeL_le most bl n
    have h2 := sizeA_le most r (sizeL most bl n).1
    show n ≤ (if (sizeL most bl n).2 then (sizeL most bl n).1 else sizeA most r (sizeL most bl n).1) ∧ (if (sizeL most bl n).2 then (sizeL most bl n).1 else sizeA most r (sizeL most bl n).1) ≤ n + ((totL bl + subA r : Nat) : Int)
    split <;> omega
theorem sizeL_le (most : Int) : ∀ (l : List Anf) (n : Int), n ≤ (sizeL most l n).1 ∧ (sizeL most l n).1 ≤ n + totL l
  | [], n => by simp [sizeL, totL]
  | c :: cs, n => by
    unfold sizeL
    have h1 := sizeA_le most c c.len
    have h2 := sizeL_le most cs (n + sizeA most c c.len)
    have h3 := subA_len c
    have h4 : totL (c :: cs) = totA c + totL cs := rfl
    split
    · exact ⟨Int.le_refl _, by omega⟩
    · constructor <;> omega
end
theorem sizeB_le (most : Int) (t : Anf) : 0 ≤ sizeB t most ∧ sizeB t most ≤ totA t := by
  have h1 := sizeA_le most t t.len
  have h2 := subA_len t
  unfold sizeB
  omega
theorem sizeL_drop {most n : Int} : ∀ {bl : List Anf} {q : Nat} (hq : q < bl.length), sizeL most (bl.drop q) n = if n > most then (n, true) else sizeL most (bl.drop (q + 1)) (n + sizeB bl[q] most)
  | c :: cs, 0, _ => by
    rw [List.drop_zero]
    conv => lhs; unfold sizeL
    simp [sizeB]
  | c :: cs, q + 1, hq => by
    have := sizeL_drop (most := most) (n := n) (bl := cs) (q := q) (by simpa using hq)
    simpa using this
theorem totL_drop : ∀ {bl : List Anf} {q : Nat} (hq : q < bl.length), totL (bl.drop q) = totA bl[q] + totL (bl.drop (q + 1))
  | c :: cs, 0, _ => by simp [totL]
  | c :: cs, q + 1, hq => by
    have := totL_drop (bl := cs) (q := q) (by simpa using hq)
    simpa using this
mutual
theorem deepA_le : ∀ (t : Anf) (m : Nat) (n : Int), n ≤ deepA t m n ∧ deepA t m n ≤ max n ((m : Int) + 1)
  | .ret _, m, n => by simp [deepA]; omega
  | .bind _ _ _ _ _ bl r, m, n => by
    have h1 := deepL_le bl m n
    have h2 := deepA_le r m (deepL bl m n)
    show n ≤ deepA r m (deepL bl m n) ∧ deepA r m (deepL bl m n) ≤ max n ((m : Int) + 1)
    omega
theorem deepL_le : ∀ (l : List Anf) (m : Nat) (n : Int), n ≤ deepL l m n ∧ deepL l m n ≤ max n ((m : Int) + 1)
  | [], m, n => by simp [deepL]; omega
  | c :: cs, 0, n => by
    have h2 := deepL_le cs 0 n
    show n ≤ deepL cs 0 n ∧ deepL cs 0 n ≤ max n (((0 : Nat) : Int) + 1)
    exact h2
  | c :: cs, m + 1, n => by
    have h1 := deepA_le c m 0
    have h2 := deepL_le cs (m + 1) (max n (deepA c m 0 + 1))
    show n ≤ deepL cs (m + 1) (max n (deepA c m 0 + 1)) ∧ deepL cs (m + 1) (max n (deepA c m 0 + 1)) ≤ max n (((m + 1 : Nat) : Int) + 1)
    omega
end
theorem deepL_drop0 {n : Int} : ∀ {bl : List Anf}, deepL bl 0 n = n
  | [] => rfl
  | c :: cs => by
    show deepL cs 0 n = n
    exact deepL_drop0
theorem deepL_drop {m : Nat} {n : Int} : ∀ {bl : List Anf} {q : Nat} (hq : q < bl.length), deepL (bl.drop q) (m + 1) n = deepL (bl.drop (q + 1)) (m + 1) (max n (deepB bl[q] m))
  | c :: cs, 0, _ => by simp [deepL, deepB]
  | c :: cs, q + 1, hq => by
    have := deepL_drop (m := m) (n := n) (bl := cs) (q := q) (by simpa using hq)
    simpa using this

section
set_option maxRecDepth 100000 in
set_option maxHeartbeats 4000000 in
theorem size_any (t : Anf) : ∀ (W : World) (v : Array Value), BodyIn W.heap.size W t v → totA t ≤ 1000000000 → ∀ most : Int, -1000000000 ≤ most → most ≤ 1000000000 →
    Calls Try.prog 28 #[.agg v, .int .i64 most] W fun e w' => e = .returned (.int .i64 (sizeB t most)) ∧ Below W.heap.size W w' := by
  induction hs : SizeOf.sizeOf t using Nat.strongRecOn generalizing t with
  | _ sz ih =>
    subst hs
    intro W v hin htot most hm1 hm2
    obtain ⟨A, c, b, o, rfl, hc, h96, hA, hB⟩ := hin.at_
    obtain ⟨W0, hW0⟩ : ∃ W0, W.alloc (.cells #[.slice A t.len c, .bool t.last.v, .int .i64 t.last.n] 27) = W0 := ⟨_, rfl⟩
    have hb0 : Below W.heap.size W W0 := by rw [← hW0]; exact (Below.refl _ _).alloc (Nat.le_refl _) _
    have hs0 : W.heap.size < W0.heap.size := by rw [← hW0]; simp
    have e0 : W0.cell? ⟨W.heap.size, 0, none⟩ = some (.slice A t.len c) := by rw [← hW0, World.cell?_alloc_at _ _ _ _ rfl]; rfl
    have HBI := Lib.hid (fun (i : Nat) (hi : i < t.len) (V : World) (hV : Below W0.heap.size W0 V) =>
      (show ∃ x k nn ats ks bl Aa ca Ak ck Al cl, A = some ⟨b, o, none⟩ ∧ b < W.heap.size ∧ Hid (t.tail i = .bind x k nn ats ks bl (t.tail (i + 1))) ∧ (V.cell? ⟨b, o + i * 6, none⟩ = some (.int .i64 x) ∧ V.cell? ⟨b, o + i * 6 + 1, none⟩ = some (.int .i64 k) ∧ V.cell? ⟨b, o + i * 6 + 2, none⟩ = some (.int .i64 nn) ∧ V.cell? ⟨b, o + i * 6 + 3, none⟩ = some (.slice Aa (List.length ats) ca) ∧ V.cell? ⟨b, o + i * 6 + 4, none⟩ = some (.slice Ak (List.length ks) ck) ∧ V.cell? ⟨b, o + i * 6 + 5, none⟩ = some (.slice Al (List.length bl) cl)) ∧ (List.length bl) ≤ cl ∧ (List.length bl) * 40 ≤ 140737488351232 ∧
        Hid (∀ j (h : j < (List.length bl)) (V2 : World) (h2 : Below V.heap.size V V2), ∃ bb oo A0 n0 c0 r0 r1, Al = some ⟨bb, oo, none⟩ ∧ V2.cell? ⟨bb, oo + j * 3, none⟩ = some (.slice A0 n0 c0) ∧ V2.cell? ⟨bb, oo + j * 3 + 1, none⟩ = some (.bool r0) ∧ V2.cell? ⟨bb, oo + j * 3 + 2, none⟩ = some (.int .i64 r1) ∧
          ∀ (V3 : World), Below V2.heap.size V2 V3 → totA bl[j] ≤ 1000000000 → Calls Try.prog 28 #[.agg #[.slice A0 n0 c0, .bool r0, .int .i64 r1], .int .i64 most] V3 fun e w' => e = .returned (.int .i64 (sizeB bl[j] most)) ∧ Below V3.heap.size V3 w') from by
        obtain ⟨x, k, nn, ats, ks, bl, Aa, ca, Ak, ck, Al, cl, he, hbi⟩ := hB i hi
        have hV0 : Below W.heap.size W V := hb0.trans (hV.mono hb0.size)
        refine ⟨x, k, nn, ats, ks, bl, Aa, ca, Ak, ck, Al, cl, hA (by omega), hbi.lt, Lib.hid he, ⟨(hV0.cell (p := ⟨_, _, none⟩) hbi.lt).trans hbi.c0, (hV0.cell (p := ⟨_, _, none⟩) hbi.lt).trans hbi.c1, (hV0.cell (p := ⟨_, _, none⟩) hbi.lt).trans hbi.c2, (hV0.cell (p := ⟨_, _, none⟩) hbi.lt).trans hbi.c3, (hV0.cell (p := ⟨_, _, none⟩) hbi.lt).trans hbi.c4, (hV0.cell (p := ⟨_, _, none⟩) hbi.lt).trans hbi.c5⟩, hbi.hlc, hbi.hl8, Lib.hid (fun j hj V2 h2 => ?_)⟩
        obtain ⟨bb, oo, g0, g1, g2, e1, e2, e3, e4, e5, hbd⟩ := hbi.blk j hj
        have hV2 : Below W.heap.size W V2 := hV0.trans (h2.mono hV0.size)
        have hbd0 := hbd
        obtain ⟨A0, c0, b0, o0, hv, -⟩ := hbd.at_
        simp only [Array.mk.injEq, List.cons.injEq, and_true] at hv
        obtain ⟨rfl, rfl, rfl⟩ := hv
        refine ⟨bb, oo, A0, _, c0, _, _, e1, (hV2.cell (p := ⟨_, _, none⟩) e2).trans e3, (hV2.cell (p := ⟨_, _, none⟩) e2).trans e4, (hV2.cell (p := ⟨_, _, none⟩) e2).trans e5, fun V3 h3 => ?_⟩
        have hV3 : Below W.heap.size W V3 := hV2.trans (h3.mono hV2.size)
        have hlt := size_block he (List.getElem_mem hj)
        exact fun ht => ih _ hlt bl[j] rfl V3 _ ((hbd0.kept hV3).mono hV3.size) ht most hm1 hm2))
    have HB0 := Lib.hid hb0
    have HS0 := Lib.hid hs0
    have HT := Lib.hid (Anf.tail_ret t)
    have HLE := Lib.hid (fun (i : Nat) (n : Int) => sizeA_le most (t.tail i) n)
    have hsub := subA_len t
    clear ih hB hin hb0 hA hs0
    obtain ⟨FIN, hFIN⟩ : ∃ z, sizeB t most = z := ⟨_, rfl⟩
    have HF := Lib.hid (show FIN = sizeA most (t.tail 0) t.len from by rw [Anf.tail_zero]; exact hFIN.symm)
    rw [hFIN]
    clear hFIN
    obtain ⟨tl, htl⟩ : ∃ tl, t.len = tl := ⟨_, rfl⟩
    have HSUB := Lib.hid (show tl + subA (t.tail 0) ≤ 1000000000 from by rw [Anf.tail_zero, ← htl]; omega)
    rw [htl] at e0 HBI HT h96 hc hW0 HF ⊢
    have htl8 : tl ≤ 1000000000 := by have := HSUB.out; omega
    clear h96 htl htot hsub
    generalize t.last.v = lv at *
    generalize t.last.n = ln at *
    go_enter Try.func28, Try.ntmps28
    go_wp2_with fail
    go_loopw [5, 16] (fun n i wr => ∃ (j : Nat) (m : Int), j ≤ tl ∧ i = .int .i64 (j : Int) ∧ n = .int .i64 m ∧ Hid (Below W0.heap.size W0 wr) ∧ 0 ≤ m ∧ Hid (m + (subA (t.tail j) : Int) ≤ 1000000000) ∧ Hid (FIN = sizeA most (t.tail j) m)) (fun _ i _ => tl + 1 - (intOf i).toNat)
    case atStart => exact ⟨0, tl, by omega, rfl, rfl, Lib.hid (Below.refl _ _), by omega, Lib.hid (by have := HSUB.out; omega), HF⟩
    case round =>
      obtain ⟨wo, rfl⟩ : ∃ wo, wo = wr := ⟨_, rfl⟩
      obtain ⟨j, m, hj, rfl, rfl, hbel, hm3, hm4, heq⟩ := hrel
      have q0 := (hbel.out.cell (p := ⟨W.heap.size, 0, none⟩) HS0.out).trans e0
      by_cases hlt : j < tl
      · have hj0 : (0 : Int) ≤ (j : Int) := by omega
        have hjl : (j : Int) < (tl : Int) := by omega
        have hjc : (tl : Int) ≤ (c : Int) := by omega
        obtain ⟨x, k, nn, ats, ks, bl, Aa, ca, Ak, ck, Al, cl, rfl, hbW, htail, ⟨s0, s1, s2, s3, s4, s5⟩, l3, l4, HBL⟩ := HBI.out j hlt wo hbel.out
        have HST := Lib.hid (show FIN = (if (sizeL most (bl.drop 0) m).2 then (sizeL most (bl.drop 0) m).1 else sizeA most (t.tail (j + 1)) (sizeL most (bl.drop 0) m).1) from by rw [List.drop_zero]; exact heq.out.trans (by rw [htail.out]; rfl))
        have HSB := Lib.hid (show m + ((totL (bl.drop 0) + subA (t.tail (j + 1)) : Nat) : Int) ≤ 1000000000 from by rw [List.drop_zero]; have := hm4.out; rw [htail.out] at this; exact this)
        clear heq htail hm4
        obtain ⟨W1, hW1⟩ : ∃ W1, wo.alloc (.cells #[.int .i64 x, .int .i64 k, .int .i64 nn, .slice Aa ats.length ca, .slice Ak ks.length ck, .slice Al bl.length cl] 54) = W1 := ⟨_, rfl⟩
        have hb1 : Below wo.heap.size wo W1 := by rw [← hW1]; exact (Below.refl _ _).alloc (Nat.le_refl _) _
        have hs1 : wo.heap.size < W1.heap.size := by rw [← hW1]; simp
        have r5 : W1.cell? ⟨wo.heap.size, 5, none⟩ = some (.slice Al bl.length cl) := by rw [← hW1, World.cell?_alloc_at _ _ _ _ rfl]; rfl
        have w3 : IntKind.i64.wrap ((j : Int) + 1) = (j : Int) + 1 := by rw [IntKind.wrap_i64]; omega
        go_wp2_with fail
        go_loopw [5, 24] (fun n2 kk wr2 => ∃ (q : Nat) (m2 : Int), q ≤ bl.length ∧ kk = .int .i64 (q : Int) ∧ n2 = .int .i64 m2 ∧ Hid (Below W1.heap.size W1 wr2) ∧ 0 ≤ m2 ∧ Hid (m2 + ((totL (bl.drop q) + subA (t.tail (j + 1)) : Nat) : Int) ≤ 1000000000) ∧ Hid (FIN = (if (sizeL most (bl.drop q) m2).2 then (sizeL most (bl.drop q) m2).1 else sizeA most (t.tail (j + 1)) (sizeL most (bl.drop q) m2).1))) (fun _ kk _ => bl.length + 1 - (intOf kk).toNat)
        case atStart => exact ⟨0, m, by omega, rfl, rfl, Lib.hid (Below.refl _ _), hm3, HSB, HST⟩
        case round =>
          obtain ⟨wq, rfl⟩ : ∃ wq, wq = wr := ⟨_, rfl⟩
          obtain ⟨q, m2, hq, rfl, rfl, hbel2, hn1, hn2, heq2⟩ := hrel
          have hbo : Below wo.heap.size wo wq := hb1.trans (hbel2.out.mono hb1.size)
          have HBO := Lib.hid hbo
          clear hbo
          have q0' := (HBO.out.cell (p := ⟨W.heap.size, 0, none⟩) (Nat.lt_of_lt_of_le HS0.out hbel.out.size)).trans q0
          by_cases hlq : q < bl.length
          · have hq0 : (0 : Int) ≤ (q : Int) := by omega
            have hql : (q : Int) < (bl.length : Int) := by omega
            have hqc : (bl.length : Int) ≤ (cl : Int) := by omega
            have w4 : IntKind.i64.wrap ((q : Int) + 1) = (q : Int) + 1 := by rw [IntKind.wrap_i64]; omega
            obtain ⟨bb, oo, A0, n0, c0', v0, v1, rfl, y0, y1, y2, hC⟩ := HBL.out q hlq wq HBO.out
            obtain ⟨W4, hW4⟩ : ∃ W4, wq.alloc (.cells #[.slice A0 n0 c0', .bool v0, .int .i64 v1] 27) = W4 := ⟨_, rfl⟩
            have hb4 : Below wq.heap.size wq W4 := by rw [← hW4]; exact (Below.refl _ _).alloc (Nat.le_refl _) _
            have p0 : W4.cell? ⟨wq.heap.size, 0, none⟩ = some (.slice A0 n0 c0') := by rw [← hW4, World.cell?_alloc_at _ _ _ _ rfl]; rfl
            have p1 : W4.cell? ⟨wq.heap.size, 1, none⟩ = some (.bool v0) := by rw [← hW4, World.cell?_alloc_at _ _ _ _ rfl]; rfl
            have p2 : W4.cell? ⟨wq.heap.size, 2, none⟩ = some (.int .i64 v1) := by rw [← hW4, World.cell?_alloc_at _ _ _ _ rfl]; rfl
            have HB4 := Lib.hid hb4
            have HD := Lib.hid (totL_drop hlq)
            have HSD := Lib.hid (sizeL_drop (most := most) (n := m2) hlq)
            by_cases hmq : m2 > most
            · have HE := Lib.hid (show FIN = m2 from heq2.out.trans (by rw [HSD.out, if_pos hmq]; rfl))
              have hmq' : most < m2 := hmq
              clear hC hb4
              go_wp2_with fail
              go_ret
              exact ⟨ret_int HE.out.symm, HB0.out.trans ((hbel.out.trans ((HBO.out.trans (HB4.out.mono HBO.out.size)).mono hbel.out.size)).mono (Nat.le_of_lt HS0.out))⟩
            · have hmq' : ¬ most < m2 := hmq
              have HC := Lib.hid (hC W4 hb4 (by have h1 := hn2.out; have h2 := HD.out; omega))
              have HN := Lib.hid (show FIN = (if (sizeL most (bl.drop (q + 1)) (m2 + sizeB bl[q] most)).2 then (sizeL most (bl.drop (q + 1)) (m2 + sizeB bl[q] most)).1 else sizeA most (t.tail (j + 1)) (sizeL most (bl.drop (q + 1)) (m2 + sizeB bl[q] most)).1) from heq2.out.trans (by rw [HSD.out, if_neg hmq]))
              have hsz := sizeB_le most bl[q]
              have hnn : m2 + sizeB bl[q] most + ((totL (bl.drop (q + 1)) + subA (t.tail (j + 1)) : Nat) : Int) ≤ 1000000000 := by have h1 := hn2.out; have h2 := HD.out; omega
              have HNN := Lib.hid hnn
              have w5 : IntKind.i64.wrap (m2 + sizeB bl[q] most) = m2 + sizeB bl[q] most := by rw [IntKind.wrap_i64]; omega
              have hpos : 0 ≤ m2 + sizeB bl[q] most := by omega
              clear hC hb4 heq2 hsz hnn
              generalize sizeB bl[q] most = sz at *
              go_wp2_with fail
              refine HC.out.mono ?_
              rintro e w5 ⟨rfl, hb5⟩
              have HB5 := Lib.hid (show Below W1.heap.size W1 w5 from hbel2.out.trans ((HB4.out.trans (hb5.mono HB4.out.size)).mono hbel2.out.size))
              clear hb5
              go_wp2_with fail
              go_roundw
              case rel => exact ⟨q + 1, m2 + sz, by omega, by go_num, by first | rfl | go_num, HB5, hpos, HNN, HN⟩
              case measure => simp [intOf]; omega
          · have hql : ¬ (q : Int) < (bl.length : Int) := by omega
            have hdr : bl.drop q = [] := List.drop_eq_nil_iff.2 (by omega)
            have HE := Lib.hid (show FIN = sizeA most (t.tail (j + 1)) m2 from heq2.out.trans (by rw [hdr]; rfl))
            have HNN := Lib.hid (show m2 + (subA (t.tail (j + 1)) : Int) ≤ 1000000000 from by have := hn2.out; rw [hdr] at this; simp [totL] at this; omega)
            clear heq2 hdr
            go_wp2_with fail
            go_roundw
            case rel => exact ⟨j + 1, m2, by omega, by go_num, rfl, Lib.hid (hbel.out.trans (HBO.out.mono hbel.out.size)), hn1, HNN, HE⟩
            case measure => simp [intOf]; omega
      · have hjl : ¬ (j : Int) < (tl : Int) := by omega
        have HE := Lib.hid (show FIN = m from heq.out.trans (by rw [HT.out j (by omega)]; rfl))
        clear heq
        go_wp2_with fail
        go_ret
        exact ⟨ret_int HE.out.symm, HB0.out.trans (hbel.out.mono (Nat.le_of_lt HS0.out))⟩

set_option maxRecDepth 100000 in
set_option maxHeartbeats 4000000 in
theorem deep_any (t : Anf) : ∀ (W : World) (v : Array Value), BodyIn W.heap.size W t v → ∀ most : Nat, most ≤ 1000000 →
    Calls Try.prog 29 #[.agg v, .int .i64 (most : Int)] W fun e w' => e = .returned (.int .i64 (deepB t most)) ∧ Below W.heap.size W w' := by
  induction hs : SizeOf.sizeOf t using Nat.strongRecOn generalizing t with
  | _ sz ih =>
    subst hs
    intro W v hin most hm
    obtain ⟨A, c, b, o, rfl, hc, h96, hA, hB⟩ := hin.at_
    obtain ⟨W0, hW0⟩ : ∃ W0, W.alloc (.cells #[.slice A t.len c, .bool t.last.v, .int .i64 t.last.n] 27) = W0 := ⟨_, rfl⟩
    have hb0 : Below W.heap.size W W0 := by rw [← hW0]; exact (Below.refl _ _).alloc (Nat.le_refl _) _
    have hs0 : W.heap.size < W0.heap.size := by rw [← hW0]; simp
    have e0 : W0.cell? ⟨W.heap.size, 0, none⟩ = some (.slice A t.len c) := by rw [← hW0, World.cell?_alloc_at _ _ _ _ rfl]; rfl
    have HBI := Lib.hid (fun (i : Nat) (hi : i < t.len) (V : World) (hV : Below W0.heap.size W0 V) =>
      (show ∃ x k nn ats ks bl Aa ca Ak ck Al cl, A = some ⟨b, o, none⟩ ∧ b < W.heap.size ∧ Hid (t.tail i = .bind x k nn ats ks bl (t.tail (i + 1))) ∧ (V.cell? ⟨b, o + i * 6, none⟩ = some (.int .i64 x) ∧ V.cell? ⟨b, o + i * 6 + 1, none⟩ = some (.int .i64 k) ∧ V.cell? ⟨b, o + i * 6 + 2, none⟩ = some (.int .i64 nn) ∧ V.cell? ⟨b, o + i * 6 + 3, none⟩ = some (.slice Aa (List.length ats) ca) ∧ V.cell? ⟨b, o + i * 6 + 4, none⟩ = some (.slice Ak (List.length ks) ck) ∧ V.cell? ⟨b, o + i * 6 + 5, none⟩ = some (.slice Al (List.length bl) cl)) ∧ (List.length bl) ≤ cl ∧ (List.length bl) * 40 ≤ 140737488351232 ∧
        Hid (∀ j (h : j < (List.length bl)) (V2 : World) (h2 : Below V.heap.size V V2), ∃ bb oo A0 n0 c0 r0 r1, Al = some ⟨bb, oo, none⟩ ∧ V2.cell? ⟨bb, oo + j * 3, none⟩ = some (.slice A0 n0 c0) ∧ V2.cell? ⟨bb, oo + j * 3 + 1, none⟩ = some (.bool r0) ∧ V2.cell? ⟨bb, oo + j * 3 + 2, none⟩ = some (.int .i64 r1) ∧
          ∀ (V3 : World), Below V2.heap.size V2 V3 → ∀ m : Nat, m ≤ 1000000 → Calls Try.prog 29 #[.agg #[.slice A0 n0 c0, .bool r0, .int .i64 r1], .int .i64 (m : Int)] V3 fun e w' => e = .returned (.int .i64 (deepB bl[j] m)) ∧ Below V3.heap.size V3 w') from by
        obtain ⟨x, k, nn, ats, ks, bl, Aa, ca, Ak, ck, Al, cl, he, hbi⟩ := hB i hi
        have hV0 : Below W.heap.size W V := hb0.trans (hV.mono hb0.size)
        refine ⟨x, k, nn, ats, ks, bl, Aa, ca, Ak, ck, Al, cl, hA (by omega), hbi.lt, Lib.hid he, ⟨(hV0.cell (p := ⟨_, _, none⟩) hbi.lt).trans hbi.c0, (hV0.cell (p := ⟨_, _, none⟩) hbi.lt).trans hbi.c1, (hV0.cell (p := ⟨_, _, none⟩) hbi.lt).trans hbi.c2, (hV0.cell (p := ⟨_, _, none⟩) hbi.lt).trans hbi.c3, (hV0.cell (p := ⟨_, _, none⟩) hbi.lt).trans hbi.c4, (hV0.cell (p := ⟨_, _, none⟩) hbi.lt).trans hbi.c5⟩, hbi.hlc, hbi.hl8, Lib.hid (fun j hj V2 h2 => ?_)⟩
        obtain ⟨bb, oo, g0, g1, g2, e1, e2, e3, e4, e5, hbd⟩ := hbi.blk j hj
        have hV2 : Below W.heap.size W V2 := hV0.trans (h2.mono hV0.size)
        have hbd0 := hbd
        obtain ⟨A0, c0, b0, o0, hv, -⟩ := hbd.at_
        simp only [Array.mk.injEq, List.cons.injEq, and_true] at hv
        obtain ⟨rfl, rfl, rfl⟩ := hv
        refine ⟨bb, oo, A0, _, c0, _, _, e1, (hV2.cell (p := ⟨_, _, none⟩) e2).trans e3, (hV2.cell (p := ⟨_, _, none⟩) e2).trans e4, (hV2.cell (p := ⟨_, _, none⟩) e2).trans e5, fun V3 h3 => ?_⟩
        have hV3 : Below W.heap.size W V3 := hV2.trans (h3.mono hV2.size)
        have hlt := size_block he (List.getElem_mem hj)
        exact fun m hm => ih _ hlt bl[j] rfl V3 _ ((hbd0.kept hV3).mono hV3.size) m hm))
    have HB0 := Lib.hid hb0
    have HS0 := Lib.hid hs0
    have HT := Lib.hid (Anf.tail_ret t)
    have HLE := Lib.hid (fun (i : Nat) (n : Int) => deepA_le (t.tail i) most n)
    clear ih hB hin hb0 hA hs0
    obtain ⟨FIN, hFIN⟩ : ∃ z, deepB t most = z := ⟨_, rfl⟩
    have HF := Lib.hid (show FIN = deepA (t.tail 0) most 0 + 1 from by rw [Anf.tail_zero]; exact hFIN.symm)
    rw [hFIN]
    clear hFIN
    have htl8 : t.len ≤ 2000000000000 := by omega
    obtain ⟨tl, htl⟩ : ∃ tl, t.len = tl := ⟨_, rfl⟩
    rw [htl] at e0 HBI HT h96 hc hW0 htl8 ⊢
    clear h96 htl
    generalize t.last.v = lv at *
    generalize t.last.n = ln at *
    go_enter Try.func29, Try.ntmps29
    go_wp2_with fail
    go_loopw [5, 13] (fun n i wr => ∃ (j : Nat) (m : Int), j ≤ tl ∧ i = .int .i64 (j : Int) ∧ n = .int .i64 m ∧ Hid (Below W0.heap.size W0 wr) ∧ 0 ≤ m ∧ m ≤ 1000001 ∧ Hid (FIN = deepA (t.tail j) most m + 1)) (fun _ i _ => tl + 1 - (intOf i).toNat)
    case atStart => exact ⟨0, 0, by omega, rfl, rfl, Lib.hid (Below.refl _ _), by omega, by omega, HF⟩
    case round =>
      obtain ⟨wo, rfl⟩ : ∃ wo, wo = wr := ⟨_, rfl⟩
      obtain ⟨j, m, hj, rfl, rfl, hbel, hm3, hm4, heq⟩ := hrel
      have q0 := (hbel.out.cell (p := ⟨W.heap.size, 0, none⟩) HS0.out).trans e0
      by_cases hlt : j < tl
      · have hj0 : (0 : Int) ≤ (j : Int) := by omega
        have hjl : (j : Int) < (tl : Int) := by omega
        have hjc : (tl : Int) ≤ (c : Int) := by omega
        obtain ⟨x, k, nn, ats, ks, bl, Aa, ca, Ak, ck, Al, cl, rfl, hbW, htail, ⟨s0, s1, s2, s3, s4, s5⟩, l3, l4, HBL⟩ := HBI.out j hlt wo hbel.out
        have HST := Lib.hid (show FIN = deepA (t.tail (j + 1)) most (deepL (bl.drop 0) most m) + 1 from by rw [List.drop_zero]; exact heq.out.trans (by rw [htail.out]; rfl))
        clear heq htail
        obtain ⟨W1, hW1⟩ : ∃ W1, wo.alloc (.cells #[.int .i64 x, .int .i64 k, .int .i64 nn, .slice Aa ats.length ca, .slice Ak ks.length ck, .slice Al bl.length cl] 54) = W1 := ⟨_, rfl⟩
        have hb1 : Below wo.heap.size wo W1 := by rw [← hW1]; exact (Below.refl _ _).alloc (Nat.le_refl _) _
        have hs1 : wo.heap.size < W1.heap.size := by rw [← hW1]; simp
        have r5 : W1.cell? ⟨wo.heap.size, 5, none⟩ = some (.slice Al bl.length cl) := by rw [← hW1, World.cell?_alloc_at _ _ _ _ rfl]; rfl
        have w3 : IntKind.i64.wrap ((j : Int) + 1) = (j : Int) + 1 := by rw [IntKind.wrap_i64]; omega
        go_wp2_with fail
        go_loopw [5, 21] (fun n2 kk wr2 => ∃ (q : Nat) (m2 : Int), q ≤ bl.length ∧ kk = .int .i64 (q : Int) ∧ n2 = .int .i64 m2 ∧ Hid (Below W1.heap.size W1 wr2) ∧ 0 ≤ m2 ∧ m2 ≤ 1000001 ∧ Hid (FIN = deepA (t.tail (j + 1)) most (deepL (bl.drop q) most m2) + 1)) (fun _ kk _ => bl.length + 1 - (intOf kk).toNat)
        case atStart => exact ⟨0, m, by omega, rfl, rfl, Lib.hid (Below.refl _ _), hm3, hm4, HST⟩
        case round =>
          obtain ⟨wq, rfl⟩ : ∃ wq, wq = wr := ⟨_, rfl⟩
          obtain ⟨q, m2, hq, rfl, rfl, hbel2, hn1, hn2, heq2⟩ := hrel
          have hbo : Below wo.heap.size wo wq := hb1.trans (hbel2.out.mono hb1.size)
          have HBO := Lib.hid hbo
          clear hbo
          have q0' := (HBO.out.cell (p := ⟨W.heap.size, 0, none⟩) (Nat.lt_of_lt_of_le HS0.out hbel.out.size)).trans q0
          by_cases hlq : q < bl.length
          · have hq0 : (0 : Int) ≤ (q : Int) := by omega
            have hql : (q : Int) < (bl.length : Int) := by omega
            have hqc : (bl.length : Int) ≤ (cl : Int) := by omega
            have w4 : IntKind.i64.wrap ((q : Int) + 1) = (q : Int) + 1 := by rw [IntKind.wrap_i64]; omega
            obtain ⟨bb, oo, A0, n0, c0', v0, v1, rfl, y0, y1, y2, hC⟩ := HBL.out q hlq wq HBO.out
            obtain ⟨W4, hW4⟩ : ∃ W4, wq.alloc (.cells #[.slice A0 n0 c0', .bool v0, .int .i64 v1] 27) = W4 := ⟨_, rfl⟩
            have hb4 : Below wq.heap.size wq W4 := by rw [← hW4]; exact (Below.refl _ _).alloc (Nat.le_refl _) _
            have p0 : W4.cell? ⟨wq.heap.size, 0, none⟩ = some (.slice A0 n0 c0') := by rw [← hW4, World.cell?_alloc_at _ _ _ _ rfl]; rfl
            have p1 : W4.cell? ⟨wq.heap.size, 1, none⟩ = some (.bool v0) := by rw [← hW4, World.cell?_alloc_at _ _ _ _ rfl]; rfl
            have p2 : W4.cell? ⟨wq.heap.size, 2, none⟩ = some (.int .i64 v1) := by rw [← hW4, World.cell?_alloc_at _ _ _ _ rfl]; rfl
            have HB4 := Lib.hid hb4
            have HB14 := Lib.hid (show Below W1.heap.size W1 W4 from hbel2.out.trans (hb4.mono hbel2.out.size))
            by_cases hmq : most = 0
            · have hmq' : ¬ (0 : Int) < (most : Int) := by omega
              have HE := Lib.hid (show FIN = deepA (t.tail (j + 1)) most (deepL (bl.drop (q + 1)) most m2) + 1 from heq2.out.trans (by rw [hmq, deepL_drop0, deepL_drop0]))
              have HMQ := Lib.hid hmq
              clear hC hb4 hmq
              go_wp2_with fail
              go_roundw
              case rel => exact ⟨q + 1, m2, by omega, by go_num, rfl, HB14, hn1, hn2, HE⟩
              case measure => simp [intOf]; omega
            · have hmq' : (0 : Int) < (most : Int) := by omega
              obtain ⟨mp, hmp⟩ : ∃ mp, most = mp + 1 := ⟨most - 1, by omega⟩
              have HC := Lib.hid (hC W4 hb4 mp (by omega))
              have HN := Lib.hid (show FIN = deepA (t.tail (j + 1)) most (deepL (bl.drop (q + 1)) most (max m2 (deepB bl[q] mp))) + 1 from heq2.out.trans (by rw [hmp, deepL_drop hlq]))
              have hsz := deepA_le bl[q] mp 0
              have hmx1 : 0 ≤ max m2 (deepB bl[q] mp) ∧ max m2 (deepB bl[q] mp) ≤ 1000001 ∨ 1000001 < deepB bl[q] mp := by unfold deepB; omega
              have hdb : deepB bl[q] mp ≤ 1000001 := by unfold deepB; omega
              have w5 : IntKind.i64.wrap ((most : Int) - 1) = (mp : Int) := by rw [IntKind.wrap_i64]; omega
              have HMP := Lib.hid hmp
              clear hC hb4 heq2 hsz hmp hmq
              generalize deepB bl[q] mp = sz at *
              go_wp2_with fail
              refine HC.out.mono ?_
              rintro e w5 ⟨rfl, hb5⟩
              have HB5 := Lib.hid (show Below W1.heap.size W1 w5 from HB14.out.trans (hb5.mono HB14.out.size))
              clear hb5
              go_wp2_with fail
              go_roundw
              case rel => exact ⟨q + 1, max m2 sz, by omega, by go_num, by first | rfl | (simp; omega) | (congr 1; omega), HB5, by omega, by omega, HN⟩
              case measure => simp [intOf]; omega
          · have hql : ¬ (q : Int) < (bl.length : Int) := by omega
            have hdr : bl.drop q = [] := List.drop_eq_nil_iff.2 (by omega)
            have HE := Lib.hid (show FIN = deepA (t.tail (j + 1)) most m2 + 1 from heq2.out.trans (by rw [hdr]; rfl))
            clear heq2 hdr
            go_wp2_with fail
            go_roundw
            case rel => exact ⟨j + 1, m2, by omega, by go_num, rfl, Lib.hid (hbel.out.trans (HBO.out.mono hbel.out.size)), hn1, hn2, HE⟩
            case measure => simp [intOf]; omega
      · have hjl : ¬ (j : Int) < (tl : Int) := by omega
        have HE := Lib.hid (show FIN = m + 1 from heq.out.trans (by rw [HT.out j (by omega)]; rfl))
        have w5 : IntKind.i64.wrap (m + 1) = m + 1 := by rw [IntKind.wrap_i64]; omega
        clear heq
        go_wp2_with fail
        go_ret
        exact ⟨ret_int HE.out.symm, HB0.out.trans (hbel.out.mono (Nat.le_of_lt HS0.out))⟩
end
end Go.Proofs.Ytnobggabjpcbfaa

/-
  clos: bodies.
-/
set_option linter.unusedVariables false
set_option linter.unusedSimpArgs false
namespace Go.Proofs.Ytnobggabjpcbfaa
open Go.RowKit

theorem infoAnf : (Try.prog.info? 27).map (fun i => (i.zero, i.size, i.bytes)) = some (some (.agg #[.slice none 0 0, .bool false, .int .i64 0]), 3, 40) := by kernel_rfl
theorem undAnf : Try.prog.underlying 50 = some (.slice 27) := by kernel_rfl
theorem news3 (w : World) (g0 g1 g2 : Value) (T : TypeId) : ∀ q u, [g0, g1, g2][q]? = some u → (w.alloc (.cells #[g0, g1, g2] T)).cell? ((⟨w.heap.size, 0, none⟩ : Addr).add q) = some u := fun q u h => by
  rw [addr_add]
  have hn := World.alloc_heap_new w (.cells #[g0, g1, g2] T)
  generalize w.alloc (.cells #[g0, g1, g2] T) = V at hn ⊢
  match q, h with
  | 0, h => simp at h; subst h; simp [World.cell?, hn]
  | 1, h => simp at h; subst h; simp [World.cell?, hn]
  | 2, h => simp at h; subst h; simp [World.cell?, hn]
  | q + 3, h => simp at h
/-- bodies that stand in a row so far -/
structure BodiesRow (W W0 wr : World) (L : List Anf) (j : Nat) (rv : Value) (Fs : List Value) : Prop where
  below : Below W0.heap.size W0 wr
  row : wr.ownsRow W0.heap.size 27 3 rv j Fs
  len : Fs.length = 3 * j
  rep : ∀ i (h : i < j) (hL : i < L.length), ∃ g0 g1 g2, Fs[3 * i]? = some g0 ∧ Fs[3 * i + 1]? = some g1 ∧ Fs[3 * i + 2]? = some g2 ∧ BodyIn W.heap.size W L[i] #[g0, g1, g2]
theorem BodiesRow.more {W W0 wr : World} {L : List Anf} {j : Nat} {rv : Value} {Fs : List Value} (h : BodiesRow W W0 wr L j rv Fs) {g0 g1 g2 : Value} (hj : j < L.length) (hb : BodyIn W.heap.size W L[j] #[g0, g1, g2]) {V w1 : World} (hV : Below wr.heap.size wr V) {rv' : Value}
    (hown : w1.ownsRow W0.heap.size 27 3 rv' (j + 1) (Fs ++ [g0, g1, g2])) (hgrow : V.grownBy w1 rv.ownBlock) : BodiesRow W W0 w1 L (j + 1) rv' (Fs ++ [g0, g1, g2]) := by
  have hb1 : Below W0.heap.size W0 V := h.below.trans (hV.mono h.below.size)
  refine ⟨hb1.grown hgrow hb1.size (fun q hq => (h.row.lt q hq).1), hown, by simp [h.len]; omega, fun i hi hL => ?_⟩
  have hl := h.len
  by_cases hij : i < j
  · obtain ⟨a, b, c, e0, e1, e2, e3⟩ := h.rep i hij hL
    exact ⟨a, b, c, by rw [List.getElem?_append_left (by omega)]; exact e0, by rw [List.getElem?_append_left (by omega)]; exact e1, by rw [List.getElem?_append_left (by omega)]; exact e2, e3⟩
  · have : i = j := by omega
    subst this
    exact ⟨g0, g1, g2, by rw [List.getElem?_append_right (by omega)]; simp [hl], by rw [List.getElem?_append_right (by omega)]; simp [hl], by rw [List.getElem?_append_right (by omega)]; simp [hl], hb⟩
/-- bodies in a row -/
def RowOf (B : Nat) (w : World) (L : List Anf) (A : Option Addr) : Prop :=
  ∀ j (h : j < L.length), ∃ bb oo A0 n0 c0 r0 r1, A = some ⟨bb, oo, none⟩ ∧ bb < w.heap.size ∧ w.cell? ⟨bb, oo + j * 3, none⟩ = some (.slice A0 n0 c0) ∧ w.cell? ⟨bb, oo + j * 3 + 1, none⟩ = some (.bool r0) ∧ w.cell? ⟨bb, oo + j * 3 + 2, none⟩ = some (.int .i64 r1) ∧ BodyIn B w L[j] #[.slice A0 n0 c0, .bool r0, .int .i64 r1]
theorem RowOf.below {B : Nat} {w w' : World} {L : List Anf} {A : Option Addr} (h : RowOf B w L A) (hB : B ≤ w.heap.size) (hb : Below w.heap.size w w') : RowOf B w' L A := fun j hj => by
  obtain ⟨bb, oo, A0, n0, c0, r0, r1, e1, e2, e3, e4, e5, e6⟩ := h j hj
  exact ⟨bb, oo, A0, n0, c0, r0, r1, e1, Nat.lt_of_lt_of_le e2 hb.size, (hb.cell (p := ⟨_, _, none⟩) e2).trans e3, (hb.cell (p := ⟨_, _, none⟩) e2).trans e4, (hb.cell (p := ⟨_, _, none⟩) e2).trans e5, e6.kept (hb.mono hB)⟩
theorem BodiesRow.whole {W W0 wr : World} {L : List Anf} {rv : Value} {Fs : List Value} (h : BodiesRow W W0 wr L L.length rv Fs) (h0 : Below W.heap.size W W0) (hL : 0 < L.length) : ∃ A c, rv = .slice A L.length c ∧ L.length ≤ c ∧ RowOf W.heap.size wr L A := by
  have hbW : Below W.heap.size W wr := h0.trans (h.below.mono h0.size)
  rcases h.row.2 with ⟨_, h0⟩ | ⟨g, cap, cur, rfl, hlo, hgg, hn, _, _, _⟩
  · omega
  · refine ⟨some ⟨g, 0, none⟩, cap, rfl, hn, fun j hj => ?_⟩
    obtain ⟨g0, g1, g2, e0, e1, e2, e3⟩ := h.rep j hj hj
    have k0 := World.ownsRow.cells h.row (g := g) rfl (3 * j) g0 e0
    have k1 := World.ownsRow.cells h.row (g := g) rfl (3 * j + 1) g1 e1
    have k2 := World.ownsRow.cells h.row (g := g) rfl (3 * j + 2) g2 e2
    rw [addr_add] at k0 k1 k2
    have e3' := e3.kept hbW
    obtain ⟨A0, c0, b0, o0, hv, -⟩ := e3.at_
    simp only [Array.mk.injEq, List.cons.injEq, and_true] at hv
    obtain ⟨rfl, rfl, rfl⟩ := hv
    exact ⟨g, 0, A0, _, c0, _, _, rfl, (h.row.lt g rfl).2, by rw [← k0, Nat.mul_comm], by rw [← k1, Nat.mul_comm]; rfl, by rw [← k2, Nat.mul_comm]; rfl, e3'⟩

/-- all bodies of a program -/
def allB (p : FlatP) : List Anf := p.funs.map (·.body) ++ [p.main]
set_option maxRecDepth 100000 in
set_option maxHeartbeats 2000000 in
theorem bodies_any {p : FlatP} {v : Array Value} (W : World) (hin : FlatIn W.heap.size W p v) :
    Calls Try.prog 27 #[.agg v] W fun e w' => ∃ A c, e = .returned (.slice A (p.funs.length + 1) c) ∧ p.funs.length + 1 ≤ c ∧ RowOf W.heap.size w' (allB p) A ∧ Below W.heap.size W w' := by
  obtain ⟨Af, cf, b, o, m0, m1, m2, rfl, hcf, h56, hmain, hA, hfun⟩ := hin
  have hmain0 := hmain
  obtain ⟨A1, c1, b1, o1, hv, -⟩ := hmain.at_
  simp only [Array.mk.injEq, List.cons.injEq, and_true] at hv
  obtain ⟨rfl, rfl, rfl⟩ := hv
  obtain ⟨W0, hW0⟩ : ∃ W0, W.alloc (.cells #[.slice Af p.funs.length cf, .slice A1 p.main.len c1, .bool p.main.last.v, .int .i64 p.main.last.n] 29) = W0 := ⟨_, rfl⟩
  have hb0 : Below W.heap.size W W0 := by rw [← hW0]; exact (Below.refl _ _).alloc (Nat.le_refl _) _
  have hs0 : W.heap.size < W0.heap.size := by rw [← hW0]; simp
  have hn0 : W0.heap[W.heap.size]? = some (.cells #[.slice Af p.funs.length cf, .slice A1 p.main.len c1, .bool p.main.last.v, .int .i64 p.main.last.n] 29 (0, 0)) := by rw [← hW0]; exact World.alloc_heap_new W _
  have HC := Lib.hid (fun (V : World) (hV : Below W0.heap.size W0 V) => (show V.cell? ⟨W.heap.size, 0, none⟩ = some (.slice Af p.funs.length cf) ∧ V.cell? ⟨W.heap.size, 1, none⟩ = some (.slice A1 p.main.len c1) ∧ V.cell? ⟨W.heap.size, 2, none⟩ = some (.bool p.main.last.v) ∧ V.cell? ⟨W.heap.size, 3, none⟩ = some (.int .i64 p.main.last.n) from
    ⟨(hV.cell (p := ⟨W.heap.size, 0, none⟩) hs0).trans (by simp [World.cell?, hn0]), (hV.cell (p := ⟨W.heap.size, 1, none⟩) hs0).trans (by simp [World.cell?, hn0]), (hV.cell (p := ⟨W.heap.size, 2, none⟩) hs0).trans (by simp [World.cell?, hn0]), (hV.cell (p := ⟨W.heap.size, 3, none⟩) hs0).trans (by simp [World.cell?, hn0])⟩))
  have HF := Lib.hid (fun (j : Nat) (hj : j < p.funs.length) (V : World) (hV : Below W0.heap.size W0 V) => (show ∃ x y A0 n0 c0 r0 r1, Af = some ⟨b, o, none⟩ ∧ V.cell? ⟨b, o + j * 5, none⟩ = some (.int .i64 x) ∧ V.cell? ⟨b, o + j * 5 + 1, none⟩ = some (.int .i64 y) ∧ V.cell? ⟨b, o + j * 5 + 2, none⟩ = some (.slice A0 n0 c0) ∧ V.cell? ⟨b, o + j * 5 + 3, none⟩ = some (.bool r0) ∧ V.cell? ⟨b, o + j * 5 + 4, none⟩ = some (.int .i64 r1) ∧ BodyIn W.heap.size W p.funs[j].body #[.slice A0 n0 c0, .bool r0, .int .i64 r1] from by
    obtain ⟨g0, g1, g2, e0, e1, e2, e3, e4, e5⟩ := hfun j hj
    have hbW : Below W.heap.size W V := hb0.trans (hV.mono hb0.size)
    have hlt := (hA (by omega)).2
    have e5' := e5
    obtain ⟨A0, c0, b0, o0, hv, -⟩ := e5.at_
    simp only [Array.mk.injEq, List.cons.injEq, and_true] at hv
    obtain ⟨rfl, rfl, rfl⟩ := hv
    exact ⟨_, _, A0, _, c0, _, _, (hA (by omega)).1, (hbW.cell (p := ⟨_, _, none⟩) hlt).trans e0, (hbW.cell (p := ⟨_, _, none⟩) hlt).trans e1, (hbW.cell (p := ⟨_, _, none⟩) hlt).trans e2, (hbW.cell (p := ⟨_, _, none⟩) hlt).trans e3, (hbW.cell (p := ⟨_, _, none⟩) hlt).trans e4, e5'⟩))
  have HM := Lib.hid hmain0
  have HB0 := Lib.hid hb0
  have HLA := Lib.hid (show (allB p).length = p.funs.length + 1 from by simp [allB])
  have HLJ := Lib.hid (fun (j : Nat) (hj : j < p.funs.length) (hj2 : j < (allB p).length) => (show (allB p)[j] = p.funs[j].body from by simp [allB, hj]))
  have HLM := Lib.hid (fun (hj2 : p.funs.length < (allB p).length) => (show (allB p)[p.funs.length] = p.main from by simp [allB]))
  obtain ⟨i0, hinf, hz0, hz1, hz2⟩ := info_parts infoAnf
  obtain ⟨k0, k1, k2, k3⟩ := HC.out W0 (Below.refl _ _)
  clear hmain hmain0 hA hfun hb0 hs0 hn0
  obtain ⟨NF, hNF⟩ : ∃ n, p.funs.length = n := ⟨_, rfl⟩
  have HNF := Lib.hid hNF
  have HF' := Lib.hid (fun (j : Nat) (hj : j < NF) => HF.out j (by rw [HNF.out]; exact hj))
  have HLJ' := Lib.hid (fun (j : Nat) (hj : j < NF) (hj2 : j < (allB p).length) => (show (allB p)[j] = (p.funs[j]'(by rw [HNF.out]; exact hj)).body from HLJ.out j (by rw [HNF.out]; exact hj) hj2))
  have HLM' := Lib.hid (fun (hj2 : NF < (allB p).length) => (show (allB p)[NF] = p.main from by subst hNF; exact HLM.out hj2))
  clear HF HLJ HLM
  rw [hNF] at hcf h56 HC HLA hW0 k0 ⊢
  clear hNF
  go_enter Try.func27, Try.ntmps27
  go_wp2_with fail
  go_loopw [3, 9] (fun rv iv wr => ∃ (j : Nat) (Fs : List Value), j ≤ NF ∧ iv = .int .i64 (j : Int) ∧ Hid (BodiesRow W W0 wr (allB p) j rv Fs)) (fun _ iv _ => NF + 1 - (intOf iv).toNat)
  case atStart => exact ⟨0, [], by omega, rfl, Lib.hid ⟨Below.refl _ _, ⟨by simp, .inl ⟨rfl, rfl⟩⟩, rfl, by intro i h; omega⟩⟩
  case round =>
    obtain ⟨j, Fs, hj, rfl, HR⟩ := hrel
    obtain ⟨q0, q1, q2, q3⟩ := HC.out wr HR.out.below
    have hsz := HR.out.below.size
    by_cases hlt : j < NF
    · obtain ⟨x, y, A0, n0, c0, r0, r1, rfl, s0, s1, s2, s3, s4, hbd⟩ := HF'.out j hlt wr HR.out.below
      have e1 : (0 : Int) ≤ (j : Int) := by omega
      have e2 : (j : Int) < (NF : Int) := by omega
      have e4 : IntKind.i64.wrap ((j : Int) + 1) = (j : Int) + 1 := by rw [IntKind.wrap_i64]; omega
      have e5 : (NF : Int) ≤ (cf : Int) := by omega
      have HBD := Lib.hid hbd
      have hml : j + 1 ≤ maxLen := by unfold maxLen; omega
      have h40 : (j + 1) * 40 ≤ 140737488355328 := by omega
      obtain ⟨W1, hW1⟩ : ∃ W1, wr.alloc (.cells #[.int .i64 x, .int .i64 y, .slice A0 n0 c0, .bool r0, .int .i64 r1] 42) = W1 := ⟨_, rfl⟩
      have hb1 : Below wr.heap.size wr W1 := by rw [← hW1]; exact (Below.refl _ _).alloc (Nat.le_refl _) _
      have u0 : W1.cell? ⟨wr.heap.size, 2, none⟩ = some (.slice A0 n0 c0) := by rw [← hW1, World.cell?_alloc_at _ _ _ _ rfl]; rfl
      have u1 : W1.cell? ⟨wr.heap.size, 3, none⟩ = some (.bool r0) := by rw [← hW1, World.cell?_alloc_at _ _ _ _ rfl]; rfl
      have u2' : W1.cell? ⟨wr.heap.size, 4, none⟩ = some (.int .i64 r1) := by rw [← hW1, World.cell?_alloc_at _ _ _ _ rfl]; rfl
      have HB1 := Lib.hid hb1
      have HROW := Lib.hid (show (W1.alloc (.cells #[.slice A0 n0 c0, .bool r0, .int .i64 r1] 27)).ownsRow W0.heap.size 27 3 u3 j Fs from (HR.out.row.kept (row := none) ⟨hb1.os, hb1.tape, hb1.output, hb1.size, fun i hi _ => hb1.block i hi⟩ (by cases u3.ownBlock <;> simp)).alloc _)
      have HSZ := Lib.hid (show W0.heap.size ≤ (W1.alloc (.cells #[.slice A0 n0 c0, .bool r0, .int .i64 r1] 27)).heap.size from by rw [World.size_alloc]; exact Nat.le_succ_of_le (Nat.le_trans hsz hb1.size))
      clear hbd hb1
      go_wp2_with (at_builtin; refine wpList_append_own_at _ rfl _ _ 50 rfl W0.heap.size 27 i0 (.agg #[.slice none 0 0, .bool false, .int .i64 0]) 3 40 undAnf hinf hz0 hz1 hz2 rfl (by decide) _ _ _ rfl HROW.out ⟨W1.heap.size, 0, none⟩ 1 1 [.slice A0 n0 c0, .bool r0, .int .i64 r1] rfl rfl (news3 _ _ _ _ _) (by simp [Value.oneCell']) hml h40 HSZ.out ?_; intro v' w1 hown' hgrow _ hat)
      have hgrow' := hgrow
      change World.grownBy _ w1 u3.ownBlock at hgrow'
      have HM2 := Lib.hid (HR.out.more (by rw [HLA.out]; omega) (by rw [HLJ'.out j hlt]; exact HBD.out) (HB1.out.trans (((Below.refl _ _).alloc (Nat.le_refl _) _ : Below W1.heap.size W1 _).mono HB1.out.size)) hown' hgrow')
      clear hgrow hgrow' hown' hat
      go_roundw
      case rel => exact ⟨j + 1, _, by omega, by go_num, HM2⟩
      case measure => simp [intOf]; omega
    · have hjN : j = NF := by omega
      subst hjN
      have e2 : ¬ (j : Int) < (j : Int) := by omega
      have hml : j + 1 ≤ maxLen := by unfold maxLen; omega
      have h40 : (j + 1) * 40 ≤ 140737488355328 := by omega
      have HROW := Lib.hid (HR.out.row.alloc (.cells #[.slice A1 p.main.len c1, .bool p.main.last.v, .int .i64 p.main.last.n] 27))
      have HSZ := Lib.hid (show W0.heap.size ≤ (wr.alloc (.cells #[.slice A1 p.main.len c1, .bool p.main.last.v, .int .i64 p.main.last.n] 27)).heap.size from by rw [World.size_alloc]; exact Nat.le_succ_of_le hsz)
      have HEND := Lib.hid (fun (v' : Value) (w1 : World) (h : BodiesRow W W0 w1 (allB p) (j + 1) v' (Fs ++ [.slice A1 p.main.len c1, .bool p.main.last.v, .int .i64 p.main.last.n])) => (show ∃ A c, v' = .slice A (j + 1) c ∧ j + 1 ≤ c ∧ RowOf W.heap.size w1 (allB p) A ∧ Below W.heap.size W w1 from by
        have h' : BodiesRow W W0 w1 (allB p) (allB p).length v' (Fs ++ [.slice A1 p.main.len c1, .bool p.main.last.v, .int .i64 p.main.last.n]) := by rw [HLA.out]; exact h
        obtain ⟨A, c, e1, e2, e3⟩ := h'.whole HB0.out (by rw [HLA.out]; omega)
        rw [HLA.out] at e1 e2
        exact ⟨A, c, e1, e2, e3, HB0.out.trans (h.below.mono HB0.out.size)⟩))
      have HMORE := Lib.hid (fun (v' : Value) (w1 : World) (hown : w1.ownsRow W0.heap.size 27 3 v' (j + 1) (Fs ++ [.slice A1 p.main.len c1, .bool p.main.last.v, .int .i64 p.main.last.n])) (hg : (wr.alloc (.cells #[.slice A1 p.main.len c1, .bool p.main.last.v, .int .i64 p.main.last.n] 27)).grownBy w1 u3.ownBlock) => HR.out.more (by rw [HLA.out]; omega) (by rw [HLM'.out]; exact HM.out) ((Below.refl _ _).alloc (Nat.le_refl _) _) hown hg)
      generalize p.main.len = ml at *
      generalize p.main.last.v = mv at *
      generalize p.main.last.n = mn at *
      go_wp2_with (at_builtin; refine wpList_append_own_at _ rfl _ _ 50 rfl W0.heap.size 27 i0 (.agg #[.slice none 0 0, .bool false, .int .i64 0]) 3 40 undAnf hinf hz0 hz1 hz2 rfl (by decide) _ _ _ rfl HROW.out ⟨wr.heap.size, 0, none⟩ 1 1 [.slice A1 ml c1, .bool mv, .int .i64 mn] rfl rfl (news3 _ _ _ _ _) (by simp [Value.oneCell']) hml h40 HSZ.out ?_; intro v' w1 hown' hgrow _ hat)
      have hgrow' := hgrow
      change World.grownBy _ w1 u3.ownBlock at hgrow'
      obtain ⟨A, c, rfl, h1, h2, h3⟩ := HEND.out v' w1 (HMORE.out v' w1 hown' hgrow')
      clear hgrow hgrow' hown' hat
      go_ret
      exact ⟨A, c, rfl, h1, h2, h3⟩
end Go.Proofs.Ytnobggabjpcbfaa

/-
  clos: Right.
-/
set_option linter.unusedVariables false
set_option linter.unusedSimpArgs false
namespace Go.Proofs.Ytnobggabjpcbfaa
open Go.RowKit Go.Maps

def szFuns : List FFun → Nat
  | [] => 0
  | g :: gs => 2 + szA g.body + szFuns gs
/-- the program is small, its atoms' numbers 64 bits wide -/
structure SmallF (p : FlatP) : Prop where
  size : szFuns p.funs + szA p.main ≤ 100000000
  rng : ∀ g ∈ p.funs, rngA g.body
  rngm : rngA p.main
theorem szFuns_drop : ∀ {l : List FFun} {j : Nat} (h : j < l.length), szFuns (l.drop j) = 2 + szA l[j].body + szFuns (l.drop (j + 1))
  | g :: gs, 0, _ => by simp [szFuns]
  | g :: gs, j + 1, h => by
    have := szFuns_drop (l := gs) (j := j) (by simpa using h)
    simpa using this
theorem szFuns_at : ∀ {l : List FFun} {g : FFun}, g ∈ l → szA g.body ≤ szFuns l
  | g :: gs, x, h => by
    unfold szFuns
    rcases List.mem_cons.1 h with rfl | h
    · omega
    · have := szFuns_at h; omega
theorem longB_drop {n : Int} : ∀ {l : List Anf} {j : Nat} (h : j < l.length), longB (l.drop j) n = if n + sizeB l[j] 65536 > 65536 ∨ deepB l[j] 400 > 400 then true else longB (l.drop (j + 1)) (n + sizeB l[j] 65536)
  | b :: bs, 0, _ => by simp only [List.drop_zero, List.getElem_cons_zero, List.drop_succ_cons]; rfl
  | b :: bs, j + 1, h => by
    have := longB_drop (n := n) (l := bs) (j := j) (by simpa using h)
    simpa using this
theorem funsE_drop {nf : Nat} : ∀ {l : List FFun} {j : Nat} (h : j < l.length), funsE nf (l.drop j) = if varB l[j].env = false ∨ varB l[j].param = false then 2 else if l[j].env = l[j].param then 9 else if bodyE nf [l[j].param, l[j].env] l[j].body ≠ 0 then bodyE nf [l[j].param, l[j].env] l[j].body else funsE nf (l.drop (j + 1))
  | g :: gs, 0, _ => by simp only [List.drop_zero, List.getElem_cons_zero, List.drop_succ_cons]; rfl
  | g :: gs, j + 1, h => by
    have := funsE_drop (nf := nf) (l := gs) (j := j) (by simpa using h)
    simpa using this
theorem allB_at {p : FlatP} (hs : SmallF p) : ∀ a ∈ allB p, totA a ≤ 1000000000 := fun a ha => by
  have h1 := totA_le a
  have h2 := hs.size
  simp only [allB, List.mem_append, List.mem_map, List.mem_singleton] at ha
  rcases ha with ⟨g, hg, rfl⟩ | rfl
  · have := szFuns_at hg; omega
  · omega

set_option maxRecDepth 100000 in
set_option maxHeartbeats 8000000 in
theorem cright_any {p : FlatP} (hsm : SmallF p) {v : Array Value} (W : World) (hin : FlatIn W.heap.size W p v) :
    Calls Try.prog 21 #[.agg v] W fun e w' => e = .returned (.int .i64 (rightC p)) ∧ Below W.heap.size W w' := by
  have hin0 := hin
  obtain ⟨Af, cf, b, o, m0, m1, m2, rfl, hcf, h56, hmain, hA, hfun⟩ := hin
  have hmain0 := hmain
  obtain ⟨A1, c1, b1, o1, hv, -⟩ := hmain.at_
  simp only [Array.mk.injEq, List.cons.injEq, and_true] at hv
  obtain ⟨rfl, rfl, rfl⟩ := hv
  obtain ⟨W0, hW0⟩ : ∃ W0, W.alloc (.cells #[.slice Af p.funs.length cf, .slice A1 p.main.len c1, .bool p.main.last.v, .int .i64 p.main.last.n] 29) = W0 := ⟨_, rfl⟩
  have hb0 : Below W.heap.size W W0 := by rw [← hW0]; exact (Below.refl _ _).alloc (Nat.le_refl _) _
  have hs0 : W.heap.size < W0.heap.size := by rw [← hW0]; simp
  have hn0 : W0.heap[W.heap.size]? = some (.cells #[.slice Af p.funs.length cf, .slice A1 p.main.len c1, .bool p.main.last.v, .int .i64 p.main.last.n] 29 (0, 0)) := by rw [← hW0]; exact World.alloc_heap_new W _
  -- what is read, wherever nothing has turned but what is new
  have HC := Lib.hid (fun (V : World) (hV : V.heap[W.heap.size]? = W0.heap[W.heap.size]?) => (show V.cell? ⟨W.heap.size, 0, none⟩ = some (.slice Af p.funs.length cf) ∧ V.cell? ⟨W.heap.size, 1, none⟩ = some (.slice A1 p.main.len c1) ∧ V.cell? ⟨W.heap.size, 2, none⟩ = some (.bool p.main.last.v) ∧ V.cell? ⟨W.heap.size, 3, none⟩ = some (.int .i64 p.main.last.n) from by
    have h := hV.trans hn0
    exact ⟨by simp [World.cell?, h], by simp [World.cell?, h], by simp [World.cell?, h], by simp [World.cell?, h]⟩))
  have HF := Lib.hid (fun (j : Nat) (hj : j < p.funs.length) (V : World) (hV : Below W.heap.size W V) => (show ∃ A0 n0 c0 r0 r1, Af = some ⟨b, o, none⟩ ∧ V.cell? ⟨b, o + j * 5, none⟩ = some (.int .i64 p.funs[j].env) ∧ V.cell? ⟨b, o + j * 5 + 1, none⟩ = some (.int .i64 p.funs[j].param) ∧ V.cell? ⟨b, o + j * 5 + 2, none⟩ = some (.slice A0 n0 c0) ∧ V.cell? ⟨b, o + j * 5 + 3, none⟩ = some (.bool r0) ∧ V.cell? ⟨b, o + j * 5 + 4, none⟩ = some (.int .i64 r1) ∧ BodyIn W.heap.size W p.funs[j].body #[.slice A0 n0 c0, .bool r0, .int .i64 r1] from by
    obtain ⟨g0, g1, g2, e0, e1, e2, e3, e4, e5⟩ := hfun j hj
    have hlt := (hA (by omega)).2
    have e5' := e5
    obtain ⟨A0, c0, b0, o0, hv, -⟩ := e5.at_
    simp only [Array.mk.injEq, List.cons.injEq, and_true] at hv
    obtain ⟨rfl, rfl, rfl⟩ := hv
    exact ⟨A0, _, c0, _, _, (hA (by omega)).1, (hV.cell (p := ⟨_, _, none⟩) hlt).trans e0, (hV.cell (p := ⟨_, _, none⟩) hlt).trans e1, (hV.cell (p := ⟨_, _, none⟩) hlt).trans e2, (hV.cell (p := ⟨_, _, none⟩) hlt).trans e3, (hV.cell (p := ⟨_, _, none⟩) hlt).trans e4, e5'⟩))
  have HM := Lib.hid hmain0
  have HB0 := Lib.hid hb0
  have HS0 := Lib.hid hs0
  have HSM := Lib.hid hsm
  have HBO := Lib.hid (bodies_any W0 ((hin0.kept hb0).mono hb0.size))
  obtain ⟨out, hout⟩ : ∃ z, rightC p = z := ⟨_, rfl⟩
  rw [hout]
  have HO := Lib.hid (show out = (if 1024 < p.funs.length then 6 else if longB (allB p) 0 then 4 else if funsE p.funs.length p.funs ≠ 0 then funsE p.funs.length p.funs else bodyE p.funs.length [] p.main) from hout.symm)
  have HLA := Lib.hid (show (allB p).length = p.funs.length + 1 from by simp [allB])
  obtain ⟨k0, k1, k2, k3⟩ := HC.out W0 rfl
  clear hmain hmain0 hA hfun hb0 hs0 hn0 hin0 hsm hout
  have hcf' : (p.funs.length : Int) ≤ (cf : Int) := by omega
  by_cases h1024 : 1024 < p.funs.length
  · have HE := Lib.hid (show out = 6 from HO.out.trans (by rw [if_pos h1024]))
    have e1 : (1024 : Int) < (p.funs.length : Int) := by omega
    clear HBO
    go_enter Try.func21, Try.ntmps21
    go_wp2_with fail
    go_ret
    exact ⟨ret_int HE.out.symm, HB0.out⟩
  have HO2 := Lib.hid (show out = (if longB (allB p) 0 then 4 else if funsE p.funs.length p.funs ≠ 0 then funsE p.funs.length p.funs else bodyE p.funs.length [] p.main) from HO.out.trans (by rw [if_neg h1024]))
  have e1 : ¬ (1024 : Int) < (p.funs.length : Int) := by omega
  have hnf : p.funs.length ≤ 1024 := by omega
  clear HO h1024
  go_enter Try.func21, Try.ntmps21
  go_wp2_with fail
  refine HBO.out.mono ?_
  rintro en w1 ⟨Ab, cb', rfl, hcb, hrow, hb1⟩
  have HROW := Lib.hid hrow
  have HB1 := Lib.hid hb1
  clear hrow hb1 HBO
  go_wp2_with fail
  go_loopw [3, 17] (fun nv iv wr => ∃ (j : Nat) (m : Int), j ≤ p.funs.length + 1 ∧ iv = .int .i64 (j : Int) ∧ nv = .int .i64 m ∧ Hid (Below w1.heap.size w1 wr) ∧ 0 ≤ m ∧ m ≤ 65536 ∧ Hid (longB (allB p) 0 = longB ((allB p).drop j) m)) (fun _ iv _ => p.funs.length + 2 - (intOf iv).toNat)
  case atStart => exact ⟨0, 0, by omega, rfl, rfl, Lib.hid (Below.refl _ _), by omega, by omega, Lib.hid rfl⟩
  case round =>
    obtain ⟨wo, rfl⟩ : ∃ wo, wo = wr := ⟨_, rfl⟩
    obtain ⟨j, m, hj, rfl, rfl, HW, hm1, hm2, HL⟩ := hrel
    have HWW := Lib.hid (show Below W0.heap.size W0 wo from HB1.out.trans (HW.out.mono HB1.out.size))
    have HBW := Lib.hid (show Below W.heap.size W wo from HB0.out.trans (HWW.out.mono HB0.out.size))
    obtain ⟨q0, q1, q2, q3⟩ := HC.out wo (HWW.out.block W.heap.size HS0.out)
    by_cases hlt : j < p.funs.length + 1
    · have hja : j < (allB p).length := by rw [HLA.out]; exact hlt
      obtain ⟨bb, oo, A0, n0, c0, r0, r1, rfl, hbb, s0, s1, s2, hbd⟩ := (HROW.out.below HB1.out.size HW.out) j hja
      have f1 : (0 : Int) ≤ (j : Int) := by omega
      have f2 : (j : Int) < (p.funs.length : Int) + 1 := by omega
      have f3 : (p.funs.length : Int) + 1 ≤ (cb' : Int) := by omega
      have f4 : IntKind.i64.wrap ((j : Int) + 1) = (j : Int) + 1 := by rw [IntKind.wrap_i64]; omega
      obtain ⟨W4, hW4⟩ : ∃ W4, wo.alloc (.cells #[.slice A0 n0 c0, .bool r0, .int .i64 r1] 27) = W4 := ⟨_, rfl⟩
      have hb4 : Below wo.heap.size wo W4 := by rw [← hW4]; exact (Below.refl _ _).alloc (Nat.le_refl _) _
      have hn4 : W4.heap[wo.heap.size]? = some (.cells #[.slice A0 n0 c0, .bool r0, .int .i64 r1] 27 (0, 0)) := by rw [← hW4]; exact World.alloc_heap_new wo _
      have HP := Lib.hid (fun (V : World) (hV : Below W4.heap.size W4 V) => (show V.cell? ⟨wo.heap.size, 0, none⟩ = some (.slice A0 n0 c0) ∧ V.cell? ⟨wo.heap.size, 1, none⟩ = some (.bool r0) ∧ V.cell? ⟨wo.heap.size, 2, none⟩ = some (.int .i64 r1) from by
        have h := (hV.block wo.heap.size (by rw [← hW4]; simp)).trans hn4
        exact ⟨by simp [World.cell?, h], by simp [World.cell?, h], by simp [World.cell?, h]⟩))
      obtain ⟨p0, p1, p2⟩ := HP.out W4 (Below.refl _ _)
      have hbdV := fun (V : World) (hV : Below wo.heap.size wo V) => (hbd.kept (hV.mono HWW.out.size)).mono (Nat.le_trans HWW.out.size hV.size)
      have HSZ := Lib.hid (size_any (allB p)[j] W4 _ (hbdV W4 hb4) (allB_at HSM.out _ (List.getElem_mem hja)) 65536 (by omega) (by omega))
      have HDP := Lib.hid (fun (V : World) (hV : Below wo.heap.size wo V) => deep_any (allB p)[j] V _ (hbdV V hV) 400 (by omega))
      have HB4 := Lib.hid hb4
      have hsb := sizeB_le 65536 (allB p)[j]
      have htb := allB_at HSM.out _ (List.getElem_mem hja)
      have HLS := Lib.hid (HL.out.trans (longB_drop hja))
      have w3 : IntKind.i64.wrap (m + sizeB (allB p)[j] 65536) = m + sizeB (allB p)[j] 65536 := by rw [IntKind.wrap_i64]; omega
      clear hbd hb4 hn4 hbdV htb
      generalize sizeB (allB p)[j] 65536 = sz at *
      generalize deepB (allB p)[j] 400 = dp at *
      go_wp2_with fail
      refine HSZ.out.mono ?_
      rintro en w5 ⟨rfl, hb5⟩
      obtain ⟨t0, t1, t2⟩ := HP.out w5 hb5
      have HB5 := Lib.hid (HB4.out.trans (hb5.mono HB4.out.size))
      clear hb5 HSZ
      by_cases hbig : m + sz > 65536
      · have hbig' : (65536 : Int) < m + sz := hbig
        have HE := Lib.hid (show out = 4 from HO2.out.trans (by rw [show longB (allB p) 0 = true from HLS.out.trans (if_pos (Or.inl hbig))]; rfl))
        clear HDP
        go_wp2_with fail
        go_ret
        exact ⟨ret_int HE.out.symm, HBW.out.trans (HB5.out.mono HBW.out.size)⟩
      · have hbig' : decide ((65536 : Int) < m + sz) = false := by simpa using hbig
        have hbig2 : ¬ (65536 : Int) < m + sz := hbig
        have HD5 := Lib.hid (HDP.out w5 HB5.out)
        clear HDP
        by_cases hdp : dp > 400
        · have hdp' : (400 : Int) < dp := hdp
          have HE := Lib.hid (show out = 4 from HO2.out.trans (by rw [show longB (allB p) 0 = true from HLS.out.trans (if_pos (Or.inr hdp))]; rfl))
          go_wp2_with (go_at_call 29; refine HD5.out.mono ?_; rintro en w6 ⟨rfl, hb6⟩)
          go_ret
          exact ⟨ret_int HE.out.symm, (HBW.out.trans (HB5.out.mono HBW.out.size)).trans (hb6.mono (Nat.le_trans HBW.out.size HB5.out.size))⟩
        · have hdp' : ¬ (400 : Int) < dp := hdp
          have HN := Lib.hid (show longB (allB p) 0 = longB ((allB p).drop (j + 1)) (m + sz) from HLS.out.trans (by rw [if_neg (by omega)]))
          have hpos : 0 ≤ m + sz ∧ m + sz ≤ 65536 := by omega
          obtain ⟨hpos1, hpos2⟩ := hpos
          go_wp2_with (go_at_call 29; refine HD5.out.mono ?_; rintro en w6 ⟨rfl, hb6⟩)
          have HW6 := Lib.hid (HW.out.trans ((HB5.out.trans (hb6.mono HB5.out.size)).mono HW.out.size))
          clear hb6
          go_roundw
          case rel => exact ⟨j + 1, m + sz, by omega, by go_num, by first | rfl | go_num, HW6, hpos1, hpos2, HN⟩
          case measure => simp [intOf]; omega
    · have f2 : ¬ (j : Int) < (p.funs.length : Int) + 1 := by omega
      have hlong : longB (allB p) 0 = false := HL.out.trans (by rw [List.drop_of_length_le (by rw [HLA.out]; omega)]; rfl)
      have HO3 := Lib.hid (show out = (if funsE p.funs.length p.funs ≠ 0 then funsE p.funs.length p.funs else bodyE p.funs.length [] p.main) from HO2.out.trans (by rw [hlong]; rfl))
      have hmm := @run_makeMap Try.prog
      have hmb := HWW.out.size
      have hWwo := HBW.out.size
      obtain ⟨V0, hV0⟩ : ∃ V0, (wo.alloc (.map #[] 0)).alloc (.cells #[.int .i64 (p.funs.length : Int), .map (some wo.heap.size)] 71) = V0 := ⟨_, rfl⟩
      have hbV0 : Below wo.heap.size wo V0 := by rw [← hV0]; exact below_two _ _ _
      have HK0 := Lib.hid (show KnownIn (wo.heap.size + 1) wo.heap.size p.funs.length 0 [] V0 from by
        refine ⟨by rw [← hV0]; exact two_new2 _ _ _, by omega, .map [], ?_, fun v hv => rfl⟩
        rw [← hV0]
        exact (World.ownsMap_made wo Try.prog 3 (plainElem Try.prog 3)).alloc _)
      have HV0 := Lib.hid hbV0
      have HBV := Lib.hid (fun (V : World) (hV : Turned wo.heap.size V0 V) => (show Below W.heap.size W V from (HBW.out.trans (hbV0.mono hWwo)).trans (hV.below hWwo (Nat.le_trans hWwo hbV0.size))))
      have HCV := Lib.hid (fun (V : World) (hV : Turned wo.heap.size V0 V) => HC.out V (((hV.block W.heap.size (by have := hbV0.size; have := HS0.out; omega) (by have := HS0.out; simp; omega)).trans (hbV0.block W.heap.size (by have := HS0.out; omega))).trans (HWW.out.block W.heap.size HS0.out)))
      obtain ⟨y0, y1, y2, y3⟩ := HCV.out V0 (Turned.refl _ _)
      clear hbV0 hlong HL HO2
      go_wp2_with fail
      go_loopw [42] (fun iv wr => ∃ (j nn : Nat), j ≤ p.funs.length ∧ iv = .int .i64 (j : Int) ∧ Hid (KnownIn (wo.heap.size + 1) wo.heap.size p.funs.length nn [] wr) ∧ Hid (Turned wo.heap.size V0 wr) ∧ Hid (out = (if funsE p.funs.length (p.funs.drop j) ≠ 0 then funsE p.funs.length (p.funs.drop j) else bodyE p.funs.length [] p.main)) ∧ Hid (nn + 2 * szFuns (p.funs.drop j) ≤ 2 * szFuns p.funs)) (fun iv _ => p.funs.length + 1 - (intOf iv).toNat)
      case atStart => exact ⟨0, 0, by omega, rfl, HK0, Lib.hid (Turned.refl _ _), Lib.hid (by rw [List.drop_zero]; exact HO3.out), Lib.hid (by simp)⟩
      case round =>
        obtain ⟨wx, rfl⟩ : ∃ wx, wx = wr := ⟨_, rfl⟩
        obtain ⟨i, nn, hi, rfl, HK, HT, HOI, HNN⟩ := hrel
        obtain ⟨z0, z1, z2, z3⟩ := HCV.out wx HT.out
        by_cases hil : i < p.funs.length
        · obtain ⟨A0, n0, c0, r0, r1, rfl, s0, s1, s2, s3, s4, hbd⟩ := HF.out i hil wx (HBV.out wx HT.out)
          have f1 : (0 : Int) ≤ (i : Int) := by omega
          have f2' : (i : Int) < (p.funs.length : Int) := by omega
          have f4 : IntKind.i64.wrap ((i : Int) + 1) = (i : Int) + 1 := by rw [IntKind.wrap_i64]; omega
          obtain ⟨W4, hW4⟩ : ∃ W4, wx.alloc (.cells #[.int .i64 p.funs[i].env, .int .i64 p.funs[i].param, .slice A0 n0 c0, .bool r0, .int .i64 r1] 42) = W4 := ⟨_, rfl⟩
          have hb4 : Below wx.heap.size wx W4 := by rw [← hW4]; exact (Below.refl _ _).alloc (Nat.le_refl _) _
          have hn4 : W4.heap[wx.heap.size]? = some (.cells #[.int .i64 p.funs[i].env, .int .i64 p.funs[i].param, .slice A0 n0 c0, .bool r0, .int .i64 r1] 42 (0, 0)) := by rw [← hW4]; exact World.alloc_heap_new wx _
          have hmx : wo.heap.size < wx.heap.size := HK.out.lt.2
          have HP := Lib.hid (fun (V : World) (hV : Turned wo.heap.size W4 V) => (show V.cell? ⟨wx.heap.size, 0, none⟩ = some (.int .i64 p.funs[i].env) ∧ V.cell? ⟨wx.heap.size, 1, none⟩ = some (.int .i64 p.funs[i].param) ∧ V.cell? ⟨wx.heap.size, 2, none⟩ = some (.slice A0 n0 c0) ∧ V.cell? ⟨wx.heap.size, 3, none⟩ = some (.bool r0) ∧ V.cell? ⟨wx.heap.size, 4, none⟩ = some (.int .i64 r1) from by
            have h := (hV.block wx.heap.size (by rw [← hW4]; simp) (by simp; omega)).trans hn4
            exact ⟨by simp [World.cell?, h], by simp [World.cell?, h], by simp [World.cell?, h], by simp [World.cell?, h], by simp [World.cell?, h]⟩))
          obtain ⟨p0, p1, p2, p3, p4⟩ := HP.out W4 (Turned.refl _ _)
          have HT4 := Lib.hid (HT.out.trans (Turned.of_below hb4))
          have HK4 := Lib.hid (HK.out.below hb4)
          obtain ⟨g0, g1, g2, g3⟩ := HCV.out W4 HT4.out
          have HBD := Lib.hid hbd
          have HFE := Lib.hid (funsE_drop (nf := p.funs.length) hil)
          have HSD := Lib.hid (szFuns_drop hil)
          have HRG := Lib.hid (HSM.out.rng _ (List.getElem_mem hil))
          have HMS := Lib.hid (szFuns_at (List.getElem_mem hil))
          clear hbd hb4 hn4
          generalize p.funs[i].env = ee at *
          generalize p.funs[i].param = pp at *
          generalize p.funs[i].body = bo at *
          have hvk : varB ee = false ∨ (varB ee = true ∧ varB pp = false) ∨ (varB ee = true ∧ varB pp = true) := by
            cases varB ee <;> cases varB pp <;> simp
          rcases hvk with v1 | ⟨v1, v2⟩ | ⟨v1, v2⟩
          · have hfe : funsE p.funs.length (p.funs.drop i) = 2 := HFE.out.trans (if_pos (Or.inl v1))
            have HE := Lib.hid (show out = 2 from HOI.out.trans (by rw [hfe]; rfl))
            clear hfe
            go_wp2_with (go_at_call 30; refine (variable_any _ _).mono ?_; rintro en w' ⟨rfl, rfl⟩)
            go_ret
            exact ⟨ret_int HE.out.symm, HBV.out _ HT4.out⟩
          · have hfe : funsE p.funs.length (p.funs.drop i) = 2 := HFE.out.trans (if_pos (Or.inr v2))
            have HE := Lib.hid (show out = 2 from HOI.out.trans (by rw [hfe]; rfl))
            clear hfe
            go_wp2_with (go_at_call 30; refine (variable_any _ _).mono ?_; rintro en w' ⟨rfl, rfl⟩)
            go_ret
            exact ⟨ret_int HE.out.symm, HBV.out _ HT4.out⟩
          · have HF1 := Lib.hid (HFE.out.trans (if_neg (by rw [v1, v2]; simp)))
            have HV1 := Lib.hid (in64_var v1)
            have HV2 := Lib.hid (in64_var v2)
            by_cases heq : ee = pp
            · have heq' : (ee == pp) = true := by simpa using heq
              have hfe : funsE p.funs.length (p.funs.drop i) = 9 := HF1.out.trans (if_pos heq)
              have HE := Lib.hid (show out = 9 from HOI.out.trans (by rw [hfe]; rfl))
              clear hfe heq
              go_wp2_with (go_at_call 30; refine (variable_any _ _).mono ?_; rintro en w' ⟨rfl, rfl⟩)
              go_ret
              exact ⟨ret_int HE.out.symm, HBV.out _ HT4.out⟩
            · have heq' : (ee == pp) = false := by simpa using heq
              have HF2 := Lib.hid (show funsE p.funs.length (p.funs.drop i) = if bodyE p.funs.length [pp, ee] bo ≠ 0 then bodyE p.funs.length [pp, ee] bo else funsE p.funs.length (p.funs.drop (i + 1)) from HF1.out.trans (if_neg heq))
              obtain ⟨W5, hW5⟩ : ∃ W5, W4.alloc (.cells #[.int .i64 ee, .int .i64 pp] 3) = W5 := ⟨_, rfl⟩
              have hb5 : Below W4.heap.size W4 W5 := by rw [← hW5]; exact (Below.refl _ _).alloc (Nat.le_refl _) _
              have hn5 : W5.heap[W4.heap.size]? = some (.cells #[.int .i64 ee, .int .i64 pp] 3 (0, 0)) := by rw [← hW5]; exact World.alloc_heap_new W4 _
              have HK5 := Lib.hid (HK4.out.below hb5)
              have HTW5 := Lib.hid (show Turned wo.heap.size W4 W5 from Turned.of_below hb5)
              have hcc : ∀ j, j < [ee, pp].length → W5.cell? ⟨W4.heap.size, 0 + j, none⟩ = some (.int .i64 (nth [ee, pp] j)) := fun j hj => by
                have : j = 0 ∨ j = 1 := by simp at hj; omega
                rcases this with rfl | rfl <;> simp [World.cell?, hn5, nth]
              have HKN := Lib.hid (know_any (l := [ee, pp]) (A := some ⟨W4.heap.size, 0, none⟩) (c := 2) HK5.out ⟨by simp, .inr ⟨W4.heap.size, 0, rfl, by rw [← hW5]; simp, hcc⟩⟩ (by simp) (by intro y hy; simp at hy; rcases hy with rfl | rfl; exact HV1.out; exact HV2.out) (by have := HNN.out; have := HSM.out.size; simp; omega) (by simp) (fun a ha => by cases ha; exact HK5.out.cellNe (hcc 0 (by simp))))
              obtain ⟨l0, l1, l2, l3, l4⟩ := HP.out W5 HTW5.out
              have HF3 := Lib.hid (HFE.out)
              clear hb5 hn5 hcc heq HFE HF1 HF3
              go_wp2_with (go_at_call 30; refine (variable_any _ _).mono ?_; rintro en w' ⟨rfl, rfl⟩)
              refine HKN.out.mono ?_
              rintro en w6 ⟨rfl, hk6, hT6⟩
              have HK6 := Lib.hid (show KnownIn (wo.heap.size + 1) wo.heap.size p.funs.length (nn + 2) [pp, ee] w6 from hk6.count (fun v => by simp [List.count_cons]; omega))
              have HT46 := Lib.hid (HTW5.out.trans hT6)
              have HT6 := Lib.hid (HT4.out.trans HT46.out)
              obtain ⟨m0, m1, m2, m3, m4⟩ := HP.out w6 HT46.out
              have HBC := Lib.hid (cbody_any (by omega : p.funs.length ≤ 1000000) hWwo bo (nn + 2) [pp, ee] w6 _ (HBD.out.kept (HBV.out w6 HT6.out)) (HBV.out w6 HT6.out).size HRG.out HK6.out (by have := HNN.out; have := HSD.out; have := HSM.out.size; omega) (by have := HMS.out; have := HSM.out.size; simp; omega))
              clear hk6 hT6 HKN
              go_wp2_with fail
              refine HBC.out.mono ?_
              rintro en w7 ⟨rfl, hk7, hT7⟩
              have HK7 := Lib.hid hk7
              have HT47 := Lib.hid (HT46.out.trans hT7)
              have HT7 := Lib.hid (HT4.out.trans HT47.out)
              obtain ⟨m5, m6, m7, m8, m9⟩ := HP.out w7 HT47.out
              clear hk7 hT7 HBC
              cases hz : (bodyE p.funs.length [pp, ee] bo == 0)
              · have hne : bodyE p.funs.length [pp, ee] bo ≠ 0 := by simpa using hz
                have hfe := HF2.out.trans (if_pos hne)
                have HE := Lib.hid (show out = bodyE p.funs.length [pp, ee] bo from HOI.out.trans (by rw [hfe, if_pos hne]))
                clear hne hfe HF2
                generalize bodyE p.funs.length [pp, ee] bo = ev at *
                go_wp2_with fail
                go_ret
                exact ⟨ret_int HE.out.symm, HBV.out _ HT7.out⟩
              · have hze : bodyE p.funs.length [pp, ee] bo = 0 := by simpa using hz
                rw [hze]
                have hfe := HF2.out.trans (if_neg (by simp [hze]))
                have HO8 := Lib.hid (show out = (if funsE p.funs.length (p.funs.drop (i + 1)) ≠ 0 then funsE p.funs.length (p.funs.drop (i + 1)) else bodyE p.funs.length [] p.main) from by rw [← hfe]; exact HOI.out)
                clear hz hze hfe HF2
                obtain ⟨W8, hW8⟩ : ∃ W8, w7.alloc (.cells #[.int .i64 ee, .int .i64 pp] 3) = W8 := ⟨_, rfl⟩
                have hb8 : Below w7.heap.size w7 W8 := by rw [← hW8]; exact (Below.refl _ _).alloc (Nat.le_refl _) _
                have hn8 : W8.heap[w7.heap.size]? = some (.cells #[.int .i64 ee, .int .i64 pp] 3 (0, 0)) := by rw [← hW8]; exact World.alloc_heap_new w7 _
                have HK8 := Lib.hid (show KnownIn (wo.heap.size + 1) wo.heap.size p.funs.length (nn + 2 + 2 * szA bo) ([ee, pp] ++ []) W8 from (HK7.out.below hb8).count (fun v => by simp [List.count_cons]; omega))
                have hcc : ∀ j, j < [ee, pp].length → W8.cell? ⟨w7.heap.size, 0 + j, none⟩ = some (.int .i64 (nth [ee, pp] j)) := fun j hj => by
                  have : j = 0 ∨ j = 1 := by simp at hj; omega
                  rcases this with rfl | rfl <;> simp [World.cell?, hn8, nth]
                have HFG := Lib.hid (forget_any (kn := []) (l := [ee, pp]) (A := some ⟨w7.heap.size, 0, none⟩) (c := 2) HK8.out ⟨by simp, .inr ⟨w7.heap.size, 0, rfl, by rw [← hW8]; simp, hcc⟩⟩ (by simp) (by intro y hy; simp at hy; rcases hy with rfl | rfl; exact HV1.out; exact HV2.out) (by have := HNN.out; have := HSD.out; have := HSM.out.size; simp; omega) (by simp) (fun a ha => by cases ha; exact HK8.out.cellNe (hcc 0 (by simp))))
                have HT8 := Lib.hid (show Turned wo.heap.size V0 W8 from HT7.out.trans (Turned.of_below hb8))
                clear hb8 hn8 hcc
                go_wp2_with fail
                refine HFG.out.mono ?_
                rintro en w9 ⟨rfl, hk9, hT9⟩
                have HK9 := Lib.hid (show KnownIn (wo.heap.size + 1) wo.heap.size p.funs.length (nn + 2 + 2 * szA bo + 2) [] w9 from hk9)
                have HT9 := Lib.hid (HT8.out.trans hT9)
                have HN9 := Lib.hid (show nn + 2 + 2 * szA bo + 2 + 2 * szFuns (p.funs.drop (i + 1)) ≤ 2 * szFuns p.funs from by have := HNN.out; have := HSD.out; omega)
                clear hk9 hT9 HFG
                go_wp2_with fail
                go_roundw
                case rel => exact ⟨i + 1, _, by omega, by go_num, HK9, HT9, HO8, HN9⟩
                case measure => simp [intOf]; omega
        · have f2' : ¬ (i : Int) < (p.funs.length : Int) := by omega
          have hdr : p.funs.drop i = [] := List.drop_eq_nil_iff.2 (by omega)
          have HE := Lib.hid (show out = bodyE p.funs.length [] p.main from HOI.out.trans (by rw [hdr]; rfl))
          have HBC := Lib.hid (cbody_any (by omega : p.funs.length ≤ 1000000) hWwo p.main nn [] wx _ (HM.out.kept (HBV.out wx HT.out)) (HBV.out wx HT.out).size HSM.out.rngm HK.out (by have := HNN.out; have := HSM.out.size; omega) (by have := HSM.out.size; simp; omega))
          clear hdr
          generalize p.main.len = ml at *
          generalize p.main.last.v = mv at *
          generalize p.main.last.n = mn at *
          go_wp2_with fail
          refine HBC.out.mono ?_
          rintro en w7 ⟨rfl, hk7, hT7⟩
          have HT7 := Lib.hid (HT.out.trans hT7)
          clear hk7 hT7
          go_wp2_with fail
          go_ret
          exact ⟨ret_int HE.out.symm, HBV.out _ HT7.out⟩
end Go.Proofs.Ytnobggabjpcbfaa

/-
  What the claim's reading gives: an argument that reads as a flat program is a flat program in memory, its atoms' numbers 64 bits wide.
-/
set_option linter.unusedVariables false
set_option linter.unusedSimpArgs false
namespace Go.Proofs.Ytnobggabjpcbfaa
open Go.ChangeShapes Go.WideShapes Go.RowKit Go.Maps

/-! ### how much is read -/
theorem bulk_one {H : Type} (d : DataW H) : 1 ≤ Rows.uptoBulk d := by
  cases d with
  | lit l => cases l <;> simp [Rows.uptoBulk]
  | _ => simp [Rows.uptoBulk]
theorem bulk_len {H : Type} : ∀ l : List (DataW H), l.length ≤ Rows.uptoBulkAll l
  | [] => by simp
  | d :: l => by have := bulk_one d; have := bulk_len l; simp only [Rows.uptoBulkAll, List.length_cons]; omega
theorem bulk_mem {H : Type} {d : DataW H} : ∀ {l : List (DataW H)}, d ∈ l → Rows.uptoBulk d ≤ Rows.uptoBulkAll l
  | x :: l, h => by
    simp only [Rows.uptoBulkAll]
    rcases List.mem_cons.1 h with rfl | h
    · omega
    · have := bulk_mem h; omega

section
variable {H : Type} {enc : TypeId × Value → H} {W : World}

theorem cellsInt : Try.prog.cellsOf 3 = 1 := by kernel_rfl
theorem cellsBool : Try.prog.cellsOf 4 = 1 := by kernel_rfl
theorem cellsKind : Try.prog.cellsOf 48 = 1 := by kernel_rfl
theorem cellsInts : Try.prog.cellsOf 30 = 1 := by kernel_rfl
theorem cellsAtom : Try.prog.cellsOf 25 = 2 := by kernel_rfl
theorem cellsAtoms : Try.prog.cellsOf 49 = 1 := by kernel_rfl
theorem cellsBind : Try.prog.cellsOf 54 = 6 := by kernel_rfl
theorem cellsBinds : Try.prog.cellsOf 23 = 1 := by kernel_rfl
theorem cellsRhs : Try.prog.cellsOf 52 = 5 := by kernel_rfl
theorem cellsAnf : Try.prog.cellsOf 27 = 3 := by kernel_rfl
theorem cellsAnfs : Try.prog.cellsOf 50 = 1 := by kernel_rfl
theorem cellsFun : Try.prog.cellsOf 42 = 5 := by kernel_rfl
theorem cellsFuns : Try.prog.cellsOf 22 = 1 := by kernel_rfl
theorem cellsFlat : Try.prog.cellsOf 29 = 4 := by kernel_rfl

set_option maxRecDepth 100000 in
/-- ints that are read lie in memory -/
theorem ints_of_trod {n : Nat} {c : Value} {x : DataW H × List MemPlace} (h : DataW.trod enc Try.prog W 0 (fun _ => true) true n 30 [c] = some x) (hb : Rows.uptoBulk x.1 ≤ 1048576) :
    ∃ (A : Option Addr) (cap : Nat) (ks : List Int), c = .slice A ks.length cap ∧ IntsIn W.heap.size W A ks ∧ ks.length ≤ cap ∧ ks.length ≤ 1048576 := by
  rcases open_ints Try.underlying30 Try.underlying3 cellsInt h with ⟨hc, rfl⟩ | ⟨a, len, cap, zs, hc, _, hlc, _, hzl, hx, hcell, hwf⟩
  · obtain rfl : c = .slice none 0 0 := by simpa using hc
    exact ⟨none, 0, [], rfl, ⟨by simp, .inl rfl⟩, by simp, by simp⟩
  · obtain rfl : c = .slice (some a) len cap := by simpa using hc
    simp only [if_true] at hzl
    have hlen : (zs.take len).length = len := by simp; omega
    have hbl : len ≤ 1048576 := by
      rw [hx] at hb
      have h1 := bulk_len (lits (H := H) .i64 (zs.take len))
      simp only [Rows.uptoBulk] at hb
      have h2 : (lits (H := H) .i64 (zs.take len)).length = len := by simp [lits]; omega
      omega
    refine ⟨some a, cap, zs.take len, by rw [hlen], ⟨by rw [hlen]; omega, ?_⟩, by rw [hlen]; exact hlc, by rw [hlen]; exact hbl⟩
    by_cases h0 : len = 0
    · left; simp [h0]
    · right
      have c0 := hcell 0 (by omega)
      obtain ⟨b, o, spot⟩ := a
      have hspot : spot = none := by simpa [Addr.add] using World.cell?_spot c0
      subst hspot
      have hadd : ∀ i, (⟨b, o, none⟩ : Addr).add i = ⟨b, o + i, none⟩ := fun i => by unfold Addr.add; split <;> simp_all
      rw [hadd] at c0
      refine ⟨b, o, rfl, World.block_lt_of_cell? _ _ c0, fun j hj => ?_⟩
      rw [hlen] at hj
      have := hcell j (by omega)
      rw [hadd] at this
      rw [this, nth_take _ hj]
      simp [nth, List.getD]

set_option maxRecDepth 100000 in
/-- a slice that is read: each element's cells, and what its own reading says -/
theorem rows_of_trod {T e : TypeId} {c n : Nat} {v : Value} {x : DataW H × List MemPlace} {Q : List Value → Prop} (ht : Try.prog.underlying T = some (.slice e)) (hc : Try.prog.cellsOf e = c) (hc0 : 0 < c)
    (h : DataW.trod enc Try.prog W 0 (fun _ => true) true n T [v] = some x) (hb : Rows.uptoBulk x.1 ≤ 1048576)
    (hQ : ∀ (q : Nat) (cs : List Value) (y : DataW H × List MemPlace), q < n → DataW.trod enc Try.prog W 0 (fun _ => true) true q e cs = some y → Rows.uptoBulk y.1 ≤ 1048576 → Q cs) :
    ∃ (A : Option Addr) (len cap b o : Nat), v = .slice A len cap ∧ len ≤ cap ∧ len ≤ 1048576 ∧ (0 < len → A = some ⟨b, o, none⟩ ∧ b < W.heap.size) ∧
      ∀ i, i < len → ∃ cs : List Value, Q cs ∧ ∀ k, k < c → W.cell? ⟨b, o + i * c + k, none⟩ = cs[k]? := by
  rcases DataW.trod_slice ht h with ⟨he, hx3⟩ | ⟨ad, len, cap, elems, rest, q, hn, he, hx3, _, hlc, _, hlen, hel, _⟩
  · obtain rfl : v = .slice none 0 0 := by simpa using he
    exact ⟨none, 0, 0, 0, 0, rfl, Nat.le_refl _, by omega, by omega, by omega⟩
  · obtain rfl : v = .slice (some ad) len cap := by simpa using he
    rw [hx3] at hb
    simp only [Rows.uptoBulk] at hb
    have hbl : len ≤ 1048576 := by
      have := bulk_len (elems.map (·.1))
      simp [hlen] at this
      omega
    rw [hc] at hel
    have each : ∀ i, i < len → ∃ cs : List Value, Q cs ∧ ∀ k, k < c → W.cell? ((ad.add (i * c)).add k) = cs[k]? := by
      intro i hi
      have h1 := hel i hi
      rw [List.getElem?_eq_getElem (by omega), Option.bind_eq_some_iff] at h1
      obtain ⟨cs', hcs, hy⟩ := h1
      have hmem : Rows.uptoBulk (elems[i]'(by omega)).1 ≤ Rows.uptoBulkAll (elems.map (·.1)) := bulk_mem (List.mem_map.2 ⟨_, List.getElem_mem _, rfl⟩)
      obtain ⟨_, hcl, hcell⟩ := World.cells?_some hcs
      exact ⟨cs', hQ q cs' _ (by omega) hy (by omega), fun k hk => hcell k hk⟩
    by_cases h0 : len = 0
    · subst h0
      exact ⟨some ad, 0, cap, 0, 0, rfl, Nat.zero_le _, by omega, by omega, by omega⟩
    · obtain ⟨bb, oo, spot⟩ := ad
      have hsome : ∃ u, W.cell? (((⟨bb, oo, spot⟩ : Addr).add (0 * c)).add 0) = some u := by
        have h1 := hel 0 (by omega)
        rw [List.getElem?_eq_getElem (by omega), Option.bind_eq_some_iff] at h1
        obtain ⟨cs', hcs, hy⟩ := h1
        obtain ⟨hcl, _, hcell⟩ := World.cells?_some hcs
        have h2 := hcell 0 hc0
        rw [List.getElem?_eq_getElem (by omega)] at h2
        exact ⟨_, h2⟩
      obtain ⟨u, hu⟩ := hsome
      have hspot : spot = none := by simpa [Addr.add] using World.cell?_spot hu
      subst hspot
      have hadd : ∀ o i, (⟨bb, o, none⟩ : Addr).add i = ⟨bb, o + i, none⟩ := fun o i => by unfold Addr.add; split <;> simp_all
      simp only [hadd] at each hu
      exact ⟨_, len, cap, bb, oo, rfl, hlc, hbl, fun _ => ⟨rfl, World.block_lt_of_cell? _ _ hu⟩, each⟩

set_option maxRecDepth 100000 in
theorem atom_of_trod {n : Nat} {cs : List Value} {x : DataW H × List MemPlace} (h : DataW.trod enc Try.prog W 0 (fun _ => true) true n 25 cs = some x) : ∃ a : Atm, cs = [.bool a.v, .int .i64 a.n] ∧ In64 a.n := by
  obtain ⟨xs, m, rfl, rfl, hl, hxl, hf⟩ := DataW.trod_struct Try.underlying25 h
  rw [cellsAtom] at hl
  match cs, hl with
  | [a, b], _ =>
    have f0 := hf 0 _ rfl
    have f1 := hf 1 _ rfl
    match xs, hxl with
    | [x0, x1], _ =>
      change DataW.trod enc Try.prog W 0 (fun _ => true) true m 4 (([a, b].drop 0).take (Try.prog.cellsOf 4)) = some x0 at f0
      rw [cellsBool] at f0
      change DataW.trod enc Try.prog W 0 (fun _ => true) true m 3 (([a, b].drop 1).take (Try.prog.cellsOf 3)) = some x1 at f1
      rw [cellsInt] at f1
      simp only [List.drop_succ_cons, List.drop_zero, List.take_succ_cons, List.take_zero] at f0 f1
      obtain ⟨v, hv, _⟩ := DataW.trod_bool Try.underlying4 f0
      obtain ⟨k, hk, _, hw⟩ := DataW.trod_int Try.underlying3 f1
      obtain rfl : a = .bool v := by simpa using hv
      obtain rfl : b = .int .i64 k := by simpa using hk
      exact ⟨⟨v, k⟩, rfl, hw⟩
set_option maxRecDepth 100000 in
/-- atoms that are read lie in memory -/
theorem atoms_of_trod {n : Nat} {v : Value} {x : DataW H × List MemPlace} (h : DataW.trod enc Try.prog W 0 (fun _ => true) true n 49 [v] = some x) (hb : Rows.uptoBulk x.1 ≤ 1048576) :
    ∃ (A : Option Addr) (cap : Nat) (ats : List Atm), v = .slice A ats.length cap ∧ AtomsIn W.heap.size W A ats ∧ ats.length ≤ cap ∧ ∀ a ∈ ats, In64 a.n := by
  obtain ⟨A, len, cap, b, o, rfl, hlc, hl, hA, hel⟩ := rows_of_trod (Q := fun cs => ∃ a : Atm, cs = [.bool a.v, .int .i64 a.n] ∧ In64 a.n) Try.underlying49 cellsAtom (by omega) h hb (fun q cs y _ hy _ => atom_of_trod hy)
  have each : ∀ i : Nat, ∃ a : Atm, i < len → W.cell? ⟨b, o + i * 2, none⟩ = some (.bool a.v) ∧ W.cell? ⟨b, o + i * 2 + 1, none⟩ = some (.int .i64 a.n) ∧ In64 a.n := fun i => by
    by_cases hi : i < len
    · obtain ⟨cs, ⟨a, rfl, ha⟩, hc⟩ := hel i hi
      exact ⟨a, fun _ => ⟨hc 0 (by omega), hc 1 (by omega), ha⟩⟩
    · exact ⟨default, fun h => absurd h hi⟩
  obtain ⟨P, hP⟩ := Classical.axiomOfChoice each
  have hlen : ((List.range len).map P).length = len := by simp
  refine ⟨A, cap, (List.range len).map P, by rw [hlen], ⟨by rw [hlen]; omega, ?_⟩, by rw [hlen]; exact hlc, fun a ha => ?_⟩
  · by_cases h0 : len = 0
    · left; simp [h0]
    · right
      obtain ⟨rfl, hbl⟩ := hA (by omega)
      refine ⟨b, o, rfl, hbl, fun j hj => ?_⟩
      rw [hlen] at hj
      have hg : ((List.range len).map P)[j]? = some (P j) := by simp [hj]
      rw [hg]
      exact ⟨(hP j hj).1, (hP j hj).2.1⟩
  · obtain ⟨i, hi, rfl⟩ := List.mem_map.1 ha
    exact (hP i (by simpa using hi)).2.2
end
end Go.Proofs.Ytnobggabjpcbfaa

/-
  What the claim's reading gives, its second part: bodies and flat programs.
-/
set_option linter.unusedVariables false
set_option linter.unusedSimpArgs false
namespace Go.Proofs.Ytnobggabjpcbfaa
open Go.ChangeShapes Go.WideShapes Go.RowKit Go.Maps

theorem rngL_of : ∀ {l : List Anf}, (∀ c ∈ l, rngA c) → rngL l
  | [], _ => by unfold rngL; trivial
  | c :: cs, h => by
    unfold rngL
    exact ⟨h c (by simp), rngL_of (fun d hd => h d (by simp [hd]))⟩
/-- a bind's six cells, and what they lead to -/
def BindQ (B : Nat) (w : World) (cs : List Value) : Prop :=
  ∃ (x k n : Int) (ats : List Atm) (ks : List Int) (bl : List Anf) (Aa Ak Al : Option Addr) (ca ck cl bb oo : Nat) (AB : Nat → Option Addr) (CB BB OO : Nat → Nat),
    cs = [.int .i64 x, .int .i64 k, .int .i64 n, .slice Aa ats.length ca, .slice Ak ks.length ck, .slice Al bl.length cl] ∧
    AtomsIn B w Aa ats ∧ ats.length ≤ ca ∧ IntsIn B w Ak ks ∧ ks.length ≤ ck ∧ bl.length ≤ cl ∧ bl.length * 40 ≤ 140737488351232 ∧ (0 < bl.length → Al = some ⟨bb, oo, none⟩ ∧ bb < B) ∧
    (∀ j (h : j < bl.length), w.cell? ⟨bb, oo + j * 3, none⟩ = some (.slice (AB j) bl[j].len (CB j))) ∧ (∀ j (h : j < bl.length), w.cell? ⟨bb, oo + j * 3 + 1, none⟩ = some (.bool bl[j].last.v)) ∧ (∀ j (h : j < bl.length), w.cell? ⟨bb, oo + j * 3 + 2, none⟩ = some (.int .i64 bl[j].last.n)) ∧
    (∀ j (h : j < bl.length), bl[j].len ≤ CB j ∧ bl[j].len * 96 ≤ 140737488351232 ∧ (0 < bl[j].len → AB j = some ⟨BB j, OO j, none⟩)) ∧ (∀ j (h : j < bl.length), AnfAt B w (BB j) (OO j) 0 bl[j]) ∧
    (∀ a ∈ ats, In64 a.n) ∧ rngL bl
theorem chain_of {B : Nat} {w : World} {b o len : Nat} (a : Atm) (ha : In64 a.n) (hbB : 0 < len → b < B) (hel : ∀ i, i < len → ∃ cs : List Value, BindQ B w cs ∧ ∀ k, k < 6 → w.cell? ⟨b, o + i * 6 + k, none⟩ = cs[k]?) :
    ∀ d i, i + d = len → ∃ t : Anf, AnfAt B w b o i t ∧ t.len = d ∧ t.last = a ∧ rngA t := by
  intro d
  induction d with
  | zero => intro i _; exact ⟨.ret a, .ret _ _ _ _, rfl, rfl, ha⟩
  | succ d ih =>
    intro i hi
    obtain ⟨t, h1, h2, h3, h4⟩ := ih (i + 1) (by omega)
    obtain ⟨cs, ⟨x, k, n, ats, ks, bl, Aa, Ak, Al, ca, ck, cl, bb, oo, AB, CB, BB, OO, rfl, q1, q2, q3, q4, q5, q6, q7, q8, q9, q10, q11, q12, q13, q14⟩, hc⟩ := hel i (by omega)
    refine ⟨.bind x k n ats ks bl t, .bind (hbB (by omega)) (hc 0 (by omega)) (hc 1 (by omega)) (hc 2 (by omega)) (hc 3 (by omega)) (hc 4 (by omega)) (hc 5 (by omega)) q1 q2 q3 q4 q5 q6 q7 q8 q9 q10 q11 q12 h1, by simp [Anf.len, h2], by simp [Anf.last, h3], ?_⟩
    unfold rngA
    exact ⟨q13, q14, h4⟩

section
variable {H : Type} {enc : TypeId × Value → H} {W : World}
/-- a body's reading -/
def AnfQ (W : World) (cs : List Value) : Prop := ∃ (t : Anf) (v0 v1 v2 : Value), cs = [v0, v1, v2] ∧ BodyIn W.heap.size W t #[v0, v1, v2] ∧ rngA t

set_option maxRecDepth 100000 in
theorem rhs_of_trod {n : Nat} {cs : List Value} {x : DataW H × List MemPlace} (h : DataW.trod enc Try.prog W 0 (fun _ => true) true n 52 cs = some x) (hb : Rows.uptoBulk x.1 ≤ 1048576)
    (ih : ∀ (q : Nat) (cs : List Value) (y : DataW H × List MemPlace), q < n → DataW.trod enc Try.prog W 0 (fun _ => true) true q 27 cs = some y → Rows.uptoBulk y.1 ≤ 1048576 → AnfQ W cs) (k : Int) :
    BindQ W.heap.size W (.int .i64 k :: cs) := by
  obtain ⟨xs, m, rfl, rfl, hl, hxl, hf⟩ := DataW.trod_struct Try.underlying52 h
  rw [cellsRhs] at hl
  match cs, hl with
  | [a, b, c, d, e], _ =>
    have f0 := hf 0 _ rfl
    have f1 := hf 1 _ rfl
    have f2 := hf 2 _ rfl
    have f3 := hf 3 _ rfl
    have f4 := hf 4 _ rfl
    match xs, hxl with
    | [x0, x1, x2, x3, x4], _ =>
      change DataW.trod enc Try.prog W 0 (fun _ => true) true m 48 (([a, b, c, d, e].drop 0).take (Try.prog.cellsOf 48)) = some x0 at f0
      rw [cellsKind] at f0
      change DataW.trod enc Try.prog W 0 (fun _ => true) true m 3 (([a, b, c, d, e].drop 1).take (Try.prog.cellsOf 3)) = some x1 at f1
      rw [cellsInt] at f1
      change DataW.trod enc Try.prog W 0 (fun _ => true) true m 49 (([a, b, c, d, e].drop 2).take (Try.prog.cellsOf 49)) = some x2 at f2
      rw [cellsAtoms] at f2
      change DataW.trod enc Try.prog W 0 (fun _ => true) true m 30 (([a, b, c, d, e].drop 3).take (Try.prog.cellsOf 30)) = some x3 at f3
      rw [cellsInts] at f3
      change DataW.trod enc Try.prog W 0 (fun _ => true) true m 50 (([a, b, c, d, e].drop 4).take (Try.prog.cellsOf 50)) = some x4 at f4
      rw [cellsAnfs] at f4
      simp only [List.drop_succ_cons, List.drop_zero, List.take_succ_cons, List.take_zero] at f0 f1 f2 f3 f4
      simp only [List.map_cons, List.map_nil, Rows.uptoBulk, Rows.uptoBulkAll] at hb
      obtain ⟨kk, hk, _, _⟩ := DataW.trod_int Try.underlying48 f0
      obtain ⟨nn, hn, _, _⟩ := DataW.trod_int Try.underlying3 f1
      obtain rfl : a = .int .i64 kk := by simpa using hk
      obtain rfl : b = .int .i64 nn := by simpa using hn
      obtain ⟨Aa, ca, ats, rfl, q1, q2, q13⟩ := atoms_of_trod f2 (by omega)
      obtain ⟨Ak, ck, ks, rfl, q3, q4, _⟩ := ints_of_trod f3 (by omega)
      obtain ⟨Al, len, cl, bb, oo, rfl, hlc, hll, hA, hel⟩ := rows_of_trod (Q := AnfQ W) Try.underlying50 cellsAnf (by omega) f4 (by omega) (fun q cs y hq hy hby => ih q cs y (by omega) hy hby)
      have each : ∀ i : Nat, ∃ p : Anf × Option Addr × Nat × Nat × Nat, i < len → W.cell? ⟨bb, oo + i * 3, none⟩ = some (.slice p.2.1 p.1.len p.2.2.1) ∧ W.cell? ⟨bb, oo + i * 3 + 1, none⟩ = some (.bool p.1.last.v) ∧ W.cell? ⟨bb, oo + i * 3 + 2, none⟩ = some (.int .i64 p.1.last.n) ∧
          (p.1.len ≤ p.2.2.1 ∧ p.1.len * 96 ≤ 140737488351232 ∧ (0 < p.1.len → p.2.1 = some ⟨p.2.2.2.1, p.2.2.2.2, none⟩)) ∧ AnfAt W.heap.size W p.2.2.2.1 p.2.2.2.2 0 p.1 ∧ rngA p.1 := fun i => by
        by_cases hi : i < len
        · obtain ⟨cs, ⟨t, v0, v1, v2, rfl, ⟨A, c, b, o, hv, h2, h3, h4, h5⟩, hr⟩, hc⟩ := hel i hi
          simp only [Array.mk.injEq, List.cons.injEq, and_true] at hv
          obtain ⟨rfl, rfl, rfl⟩ := hv
          exact ⟨(t, A, c, b, o), fun _ => ⟨hc 0 (by omega), hc 1 (by omega), hc 2 (by omega), ⟨h2, h3, h4⟩, h5, hr⟩⟩
        · exact ⟨default, fun h => absurd h hi⟩
      obtain ⟨P, hP⟩ := Classical.axiomOfChoice each
      have hlen : ((List.range len).map fun i => (P i).1).length = len := by simp
      have hget : ∀ j (h : j < ((List.range len).map fun i => (P i).1).length), ((List.range len).map fun i => (P i).1)[j] = (P j).1 := fun j h => by simp
      refine ⟨k, kk, nn, ats, ks, (List.range len).map fun i => (P i).1, Aa, Ak, Al, ca, ck, cl, bb, oo, fun j => (P j).2.1, fun j => (P j).2.2.1, fun j => (P j).2.2.2.1, fun j => (P j).2.2.2.2, by rw [hlen], q1, q2, q3, q4, by rw [hlen]; exact hlc, by rw [hlen]; omega, by rw [hlen]; exact hA, ?_, ?_, ?_, ?_, ?_, q13, ?_⟩
      · intro j h; rw [hget j h]; exact (hP j (by rwa [hlen] at h)).1
      · intro j h; rw [hget j h]; exact (hP j (by rwa [hlen] at h)).2.1
      · intro j h; rw [hget j h]; exact (hP j (by rwa [hlen] at h)).2.2.1
      · intro j h; rw [hget j h]; exact (hP j (by rwa [hlen] at h)).2.2.2.1
      · intro j h; rw [hget j h]; exact (hP j (by rwa [hlen] at h)).2.2.2.2.1
      · refine rngL_of (fun c hc => ?_)
        obtain ⟨i, hi, rfl⟩ := List.mem_map.1 hc
        exact (hP i (by simpa using hi)).2.2.2.2.2

set_option maxRecDepth 100000 in
theorem bind_of_trod {n : Nat} {cs : List Value} {x : DataW H × List MemPlace} (h : DataW.trod enc Try.prog W 0 (fun _ => true) true n 54 cs = some x) (hb : Rows.uptoBulk x.1 ≤ 1048576)
    (ih : ∀ (q : Nat) (cs : List Value) (y : DataW H × List MemPlace), q < n → DataW.trod enc Try.prog W 0 (fun _ => true) true q 27 cs = some y → Rows.uptoBulk y.1 ≤ 1048576 → AnfQ W cs) :
    BindQ W.heap.size W cs := by
  obtain ⟨xs, m, rfl, rfl, hl, hxl, hf⟩ := DataW.trod_struct Try.underlying54 h
  rw [cellsBind] at hl
  match cs, hl with
  | [z, a, b, c, d, e], _ =>
    have f0 := hf 0 _ rfl
    have f1 := hf 1 _ rfl
    match xs, hxl with
    | [x0, x1], _ =>
      change DataW.trod enc Try.prog W 0 (fun _ => true) true m 3 (([z, a, b, c, d, e].drop 0).take (Try.prog.cellsOf 3)) = some x0 at f0
      rw [cellsInt] at f0
      change DataW.trod enc Try.prog W 0 (fun _ => true) true m 52 (([z, a, b, c, d, e].drop 1).take (Try.prog.cellsOf 52)) = some x1 at f1
      rw [cellsRhs] at f1
      simp only [List.drop_succ_cons, List.drop_zero, List.take_succ_cons, List.take_zero] at f0 f1
      simp only [List.map_cons, List.map_nil, Rows.uptoBulk, Rows.uptoBulkAll] at hb
      obtain ⟨k, hk, _, _⟩ := DataW.trod_int Try.underlying3 f0
      obtain rfl : z = .int .i64 k := by simpa using hk
      exact rhs_of_trod f1 (by omega) (fun q cs y hq => ih q cs y (by omega)) k

set_option maxRecDepth 100000 in
theorem anf_of_trod : ∀ (n : Nat) (cs : List Value) (x : DataW H × List MemPlace), DataW.trod enc Try.prog W 0 (fun _ => true) true n 27 cs = some x → Rows.uptoBulk x.1 ≤ 1048576 → AnfQ W cs := by
  intro n
  induction n using Nat.strongRecOn with
  | _ n ih =>
    intro cs x h hb
    obtain ⟨xs, m, rfl, rfl, hl, hxl, hf⟩ := DataW.trod_struct Try.underlying27 h
    rw [cellsAnf] at hl
    match cs, hl with
    | [a, b, c], _ =>
      have f0 := hf 0 _ rfl
      have f1 := hf 1 _ rfl
      match xs, hxl with
      | [x0, x1], _ =>
        change DataW.trod enc Try.prog W 0 (fun _ => true) true m 23 (([a, b, c].drop 0).take (Try.prog.cellsOf 23)) = some x0 at f0
        rw [cellsBinds] at f0
        change DataW.trod enc Try.prog W 0 (fun _ => true) true m 25 (([a, b, c].drop 1).take (Try.prog.cellsOf 25)) = some x1 at f1
        rw [cellsAtom] at f1
        simp only [List.drop_succ_cons, List.drop_zero, List.take_succ_cons, List.take_zero] at f0 f1
        simp only [List.map_cons, List.map_nil, Rows.uptoBulk, Rows.uptoBulkAll] at hb
        obtain ⟨at_, hat, hin⟩ := atom_of_trod f1
        obtain ⟨rfl, rfl⟩ : b = .bool at_.v ∧ c = .int .i64 at_.n := by simpa using hat
        obtain ⟨A, len, cap, bb, oo, rfl, hlc, hll, hA, hel⟩ := rows_of_trod (Q := BindQ W.heap.size W) Try.underlying23 cellsBind (by omega) f0 (by omega) (fun q cs y hq hy hby => bind_of_trod hy hby (fun q2 cs2 y2 hq2 => ih q2 (by omega) cs2 y2))
        obtain ⟨t, h1, h2, h3, h4⟩ := chain_of at_ hin (fun h => (hA h).2) hel len 0 (by omega)
        exact ⟨t, _, _, _, rfl, ⟨A, cap, bb, oo, by rw [h2, h3], by omega, by omega, fun h => (hA (by omega)).1, h1⟩, h4⟩

/-- a function's reading -/
def FunQ (W : World) (cs : List Value) : Prop := ∃ (g : FFun) (v0 v1 v2 : Value), cs = [.int .i64 g.env, .int .i64 g.param, v0, v1, v2] ∧ BodyIn W.heap.size W g.body #[v0, v1, v2] ∧ rngA g.body
set_option maxRecDepth 100000 in
theorem fun_of_trod {n : Nat} {cs : List Value} {x : DataW H × List MemPlace} (h : DataW.trod enc Try.prog W 0 (fun _ => true) true n 42 cs = some x) (hb : Rows.uptoBulk x.1 ≤ 1048576) : FunQ W cs := by
  obtain ⟨xs, m, rfl, rfl, hl, hxl, hf⟩ := DataW.trod_struct Try.underlying42 h
  rw [cellsFun] at hl
  match cs, hl with
  | [a, b, c, d, e], _ =>
    have f0 := hf 0 _ rfl
    have f1 := hf 1 _ rfl
    have f2 := hf 2 _ rfl
    match xs, hxl with
    | [x0, x1, x2], _ =>
      change DataW.trod enc Try.prog W 0 (fun _ => true) true m 3 (([a, b, c, d, e].drop 0).take (Try.prog.cellsOf 3)) = some x0 at f0
      rw [cellsInt] at f0
      change DataW.trod enc Try.prog W 0 (fun _ => true) true m 3 (([a, b, c, d, e].drop 1).take (Try.prog.cellsOf 3)) = some x1 at f1
      rw [cellsInt] at f1
      change DataW.trod enc Try.prog W 0 (fun _ => true) true m 27 (([a, b, c, d, e].drop 2).take (Try.prog.cellsOf 27)) = some x2 at f2
      rw [cellsAnf] at f2
      simp only [List.drop_succ_cons, List.drop_zero, List.take_succ_cons, List.take_zero] at f0 f1 f2
      simp only [List.map_cons, List.map_nil, Rows.uptoBulk, Rows.uptoBulkAll] at hb
      obtain ⟨k0, hk0, _, _⟩ := DataW.trod_int Try.underlying3 f0
      obtain ⟨k1, hk1, _, _⟩ := DataW.trod_int Try.underlying3 f1
      obtain rfl : a = .int .i64 k0 := by simpa using hk0
      obtain rfl : b = .int .i64 k1 := by simpa using hk1
      obtain ⟨t, v0, v1, v2, hv, hin, hr⟩ := anf_of_trod m _ _ f2 (by omega)
      obtain ⟨rfl, rfl, rfl⟩ : c = v0 ∧ d = v1 ∧ e = v2 := by simpa using hv
      exact ⟨⟨k0, k1, t⟩, _, _, _, rfl, hin, hr⟩

set_option maxRecDepth 100000 in
/-- a flat program that is read lies in memory -/
theorem flat_of_trod {n : Nat} {cs : List Value} {x : DataW H × List MemPlace} (h : DataW.trod enc Try.prog W 0 (fun _ => true) true n 29 cs = some x) (hb : Rows.uptoBulk x.1 ≤ 1048576) :
    ∃ (p : FlatP) (v0 v1 v2 v3 : Value), cs = [v0, v1, v2, v3] ∧ FlatIn W.heap.size W p #[v0, v1, v2, v3] ∧ ((∀ g ∈ p.funs, rngA g.body) ∧ rngA p.main) ∧ p.funs.length ≤ 1048576 := by
  obtain ⟨xs, m, rfl, rfl, hl, hxl, hf⟩ := DataW.trod_struct Try.underlying29 h
  rw [cellsFlat] at hl
  match cs, hl with
  | [a, b, c, d], _ =>
    have f0 := hf 0 _ rfl
    have f1 := hf 1 _ rfl
    match xs, hxl with
    | [x0, x1], _ =>
      change DataW.trod enc Try.prog W 0 (fun _ => true) true m 22 (([a, b, c, d].drop 0).take (Try.prog.cellsOf 22)) = some x0 at f0
      rw [cellsFuns] at f0
      change DataW.trod enc Try.prog W 0 (fun _ => true) true m 27 (([a, b, c, d].drop 1).take (Try.prog.cellsOf 27)) = some x1 at f1
      rw [cellsAnf] at f1
      simp only [List.drop_succ_cons, List.drop_zero, List.take_succ_cons, List.take_zero] at f0 f1
      simp only [List.map_cons, List.map_nil, Rows.uptoBulk, Rows.uptoBulkAll] at hb
      obtain ⟨t, v0, v1, v2, hv, hin, hr⟩ := anf_of_trod m _ _ f1 (by omega)
      obtain ⟨rfl, rfl, rfl⟩ : b = v0 ∧ c = v1 ∧ d = v2 := by simpa using hv
      obtain ⟨A, len, cap, bb, oo, rfl, hlc, hll, hA, hel⟩ := rows_of_trod (Q := FunQ W) Try.underlying22 cellsFun (by omega) f0 (by omega) (fun q cs y hq hy hby => fun_of_trod hy hby)
      have each : ∀ i : Nat, ∃ p : FFun × Value × Value × Value, i < len → W.cell? ⟨bb, oo + i * 5, none⟩ = some (.int .i64 p.1.env) ∧ W.cell? ⟨bb, oo + i * 5 + 1, none⟩ = some (.int .i64 p.1.param) ∧ W.cell? ⟨bb, oo + i * 5 + 2, none⟩ = some p.2.1 ∧ W.cell? ⟨bb, oo + i * 5 + 3, none⟩ = some p.2.2.1 ∧ W.cell? ⟨bb, oo + i * 5 + 4, none⟩ = some p.2.2.2 ∧
          BodyIn W.heap.size W p.1.body #[p.2.1, p.2.2.1, p.2.2.2] ∧ rngA p.1.body := fun i => by
        by_cases hi : i < len
        · obtain ⟨cs, ⟨g, v0, v1, v2, rfl, hg, hr⟩, hc⟩ := hel i hi
          exact ⟨(g, v0, v1, v2), fun _ => ⟨hc 0 (by omega), hc 1 (by omega), hc 2 (by omega), hc 3 (by omega), hc 4 (by omega), hg, hr⟩⟩
        · exact ⟨(default, .nilIface, .nilIface, .nilIface), fun h => absurd h hi⟩
      obtain ⟨P, hP⟩ := Classical.axiomOfChoice each
      have hlen : ((List.range len).map fun i => (P i).1).length = len := by simp
      refine ⟨⟨(List.range len).map fun i => (P i).1, t⟩, _, _, _, _, rfl, ⟨A, cap, bb, oo, _, _, _, by rw [hlen], by rw [hlen]; exact hlc, by rw [hlen]; omega, hin, by rw [hlen]; exact hA, ?_⟩, ⟨?_, hr⟩, by rw [hlen]; exact hll⟩
      · intro j h
        rw [hlen] at h
        have hget : ((List.range len).map fun i => (P i).1)[j] = (P j).1 := by simp
        obtain ⟨q0, q1, q2, q3, q4, q5, _⟩ := hP j h
        exact ⟨_, _, _, by rw [hget]; exact q0, by rw [hget]; exact q1, q2, q3, q4, by rw [hget]; exact q5⟩
      · intro g hg
        obtain ⟨i, hi, rfl⟩ := List.mem_map.1 hg
        exact (hP i (by simpa using hi)).2.2.2.2.2.2

set_option maxRecDepth 100000 in
theorem open_flat2 {r : Reach} {b0 : Nat} {v : Value} {d : DataW H} {ps : List MemPlace} (hval : Value.okWide Try.prog W r b0 29 v) (hd : DataW.Trod enc Try.prog W 0 (fun _ => true) true 29 v d ps) (hb : Rows.uptoBulk d ≤ 1048576) :
    ∃ p cs, v = .agg cs ∧ FlatIn W.heap.size W p cs ∧ ((∀ g ∈ p.funs, rngA g.body) ∧ rngA p.main) ∧ p.funs.length ≤ 1048576 := by
  obtain ⟨cs, rfl, _⟩ := okWide_struct Try.underlying29 hval
  obtain ⟨fuel, hf⟩ := hd
  obtain ⟨p, v0, v1, v2, v3, hcs, hin, hh⟩ := flat_of_trod hf hb
  obtain rfl : cs = #[v0, v1, v2, v3] := by
    have : cs.toList = [v0, v1, v2, v3] := by simpa [Value.cells] using hcs
    cases cs; simp_all
  exact ⟨p, _, rfl, hin, hh⟩
set_option maxRecDepth 100000 in
/-- a function that is read lies in memory -/
theorem open_fun {r : Reach} {b0 : Nat} {v : Value} {d : DataW H} {ps : List MemPlace} (hval : Value.okWide Try.prog W r b0 42 v) (hd : DataW.Trod enc Try.prog W 0 (fun _ => true) true 42 v d ps) (hb : Rows.uptoBulk d ≤ 1048576) :
    ∃ (g : FFun) (e0 e1 e2 : Value), v = .agg #[.int .i64 g.env, .int .i64 g.param, e0, e1, e2] ∧ BodyIn W.heap.size W g.body #[e0, e1, e2] ∧ rngA g.body := by
  obtain ⟨cs, rfl, _⟩ := okWide_struct Try.underlying42 hval
  obtain ⟨fuel, hf⟩ := hd
  obtain ⟨g, v0, v1, v2, hcs, hin, hh⟩ := fun_of_trod hf hb
  obtain rfl : cs = #[.int .i64 g.env, .int .i64 g.param, v0, v1, v2] := by
    have : cs.toList = [.int .i64 g.env, .int .i64 g.param, v0, v1, v2] := by simpa [Value.cells] using hcs
    cases cs; simp_all
  exact ⟨g, _, _, _, rfl, hin, hh⟩
set_option maxRecDepth 100000 in
theorem open_intsV {r : Reach} {b0 : Nat} {v : Value} {d : DataW H} {ps : List MemPlace} (hval : Value.okWide Try.prog W r b0 30 v) (hd : DataW.Trod enc Try.prog W 0 (fun _ => true) true 30 v d ps) (hb : Rows.uptoBulk d ≤ 1048576) :
    ∃ (A : Option Addr) (cap : Nat) (ks : List Int), v = .slice A ks.length cap ∧ IntsIn W.heap.size W A ks ∧ ks.length ≤ cap ∧ ks.length ≤ 1048576 := by
  obtain ⟨a, len, cap, rfl⟩ := okWide_slice Try.underlying30 hval
  obtain ⟨fuel, hf⟩ := hd
  exact ints_of_trod (c := .slice a len cap) (by simpa [Value.cells] using hf) hb
end
theorem bound {H : Type} {l : List (DataW H)} (hk : Rows.uptoSmall H l = true) : Rows.uptoBulkAll l ≤ 1048576 := by
  simpa [Rows.uptoSmall] using hk
set_option maxRecDepth 100000 in
theorem own : ownKnob Try.prog.godebug = none := by kernel_rfl
end Go.Proofs.Ytnobggabjpcbfaa

/-
  What the claim asks behind the call: true, and the arguments read as they did.
-/
set_option linter.unusedVariables false
set_option linter.unusedSimpArgs false
namespace Go.Proofs.Ytnobggabjpcbfaa
open Go.ChangeShapes Go.WideShapes Go.RowKit

theorem laidOut : laidOutB Try.prog = true := by kernel_rfl

/-- arguments read behind the call as they did -/
theorem args_again {H : Type} {enc : TypeId × Value → H} {W W' : World} (hb : Below W.heap.size W W') : ∀ {ts : List TypeId} {vs : List Value} {ds : List (DataW H)} {ps : List MemPlace} (hts : ∀ t ∈ ts, Try.prog.readableRec t = true ∧ t < Try.prog.types.size) (h : DataW.TrodAll enc Try.prog W 0 (fun _ => true) true ts vs ds ps)
    (hlt : ∀ x ∈ ps, x.block < W.heap.size) (sp : Nat → Bool) (hsp : ∀ x ∈ ps, sp x.block = true), DataW.TrodAll enc Try.prog W' 0 sp true ts vs ds ps
  | [], [], [], _, _, h, _, _, _ => h
  | _ :: _, _ :: _, _ :: _, _, hts, ⟨p, q, h1, h2, e⟩, hlt, sp, hsp =>
    ⟨p, q, WideElems.Trod_stays laidOut (hts _ (List.mem_cons_self ..)).1 (hts _ (List.mem_cons_self ..)).2 h1 (fun x hx => hb.same (hlt x (by rw [e]; exact List.mem_append_left _ hx))) (fun x hx => hsp x (by rw [e]; exact List.mem_append_left _ hx)),
      args_again hb (fun t ht => hts t (List.mem_cons_of_mem _ ht)) h2 (fun x hx => hlt x (by rw [e]; exact List.mem_append_right _ hx)) sp (fun x hx => hsp x (by rw [e]; exact List.mem_append_right _ hx)), e⟩

set_option maxRecDepth 100000 in
theorem post_true {H : Type} {enc : TypeId × Value → H} {f : Func} {s : ChangeSpec} {W W' : World} {args : Array Value} {ds : List (DataW H)} {before : List MemPlace} (hts : ∀ t ∈ f.params.toList, Try.prog.readableRec t = true ∧ t < Try.prog.types.size) (hv : s.vars = [])
    (hW : DataW.Whole enc Try.prog f.params.toList s.vars false W args.toList ds [] before) (hs : s.fn H (ds ++ []) = { results := [.lit (.bool true)], args := ds }) (hr : f.resultTypes = #[4]) (hb : Below W.heap.size W W') :
    s.post enc Try.prog f false true false false W args (.bool true) W' := by
  have hlt : ∀ x ∈ before, x.block < W.heap.size := fun x hx => by simpa using hW.lt x hx
  have hW' := hW
  obtain ⟨p, q, hA, hV, he, hz, hn⟩ := hW'
  rw [hv] at hV
  obtain ⟨_, rfl⟩ := trodVars_none hV
  have hpb : p = before := by rw [he]; simp
  subst hpb
  have hargs : ∀ sp : Nat → Bool, (∀ x ∈ p, sp x.block = true) → DataW.TrodAll enc Try.prog W' 0 sp true f.params.toList args.toList ds p := fun sp hsp => args_again hb hts hA hlt sp hsp
  have hres : ∀ (b : Nat) (sp : Nat → Bool) (hd : Bool), DataW.TrodAll enc Try.prog W' b sp hd f.resultTypes.toList ((Value.bool true).resultList f.resultTypes.size) [.lit (.bool true)] [] := fun b sp hd => by
    rw [hr]
    exact trodAll_cons_mk (shut_bool Try.underlying4 true) trodAll_mk0
  have hvars : ∀ sp : Nat → Bool, DataW.TrodVars enc Try.prog W' sp s.vars [] [] := fun sp => by rw [hv]; rfl
  refine ⟨ds, [], p, [], p, [], hW, ?_, ?_, ?_, World.keptBut_mono (fun x hx => ⟨hx, Or.inr (Or.inl hx)⟩) (hb.frame (· ∈ p)), fun _ => ?_⟩
  · rw [hs]; exact hres _ _ _
  · rw [hs]; exact hargs _ (fun x hx => by simpa using hlt x hx)
  · rw [hs]; exact hvars _
  · refine ⟨ok_one (v := .bool true) hr (by simp [Value.resultList]) (okWide_bool_mk (P := Try.prog) (W' := W') (t := 4) Try.underlying4 true), [.lit (.bool true)] ++ ds, [], ([] ++ p) ++ [], ⟨[] ++ p, [], ?_, hvars _, rfl, ?_, by intro h; cases h⟩, ?_⟩
    · exact trodAll_append (hargs (fun _ => true) (fun _ _ => rfl)) (hres _ _ _)
    · intro b off hp
      have hp' : MemPlace.cell b off ∈ p := by simpa using hp
      rw [hb.frozen (hlt _ hp')]
      exact hz b off (by simpa using hp')
    · intro x hx _
      simpa using hx
end Go.Proofs.Ytnobggabjpcbfaa
