/-
 1 texts of this seat in one: S9.
-/
import Derived.Test.YtnobggabjpcbfaaGreatQI42
set_option maxRecDepth 100000
set_option maxHeartbeats 16000000
set_option linter.unusedVariables false
set_option linter.unusedSimpArgs false
namespace Go.Proofs.YtnobggabjpcbfaaGreat
open Go.RowKit Go.Maps
theorem asks_same {l k : List Int} (h : ∀ x, l.contains x = k.contains x) (a : Atm) : asksB l a = asksB k a := by simp only [asksB, h]
theorem asks_all {l k : List Int} (h : ∀ x, l.contains x = k.contains x) (ats : List Atm) : ats.all (asksB l) = ats.all (asksB k) := by
 congr 1
 funext a
 exact asks_same h a
theorem app_same {l k : List Int} (g : List Int) (h : ∀ x, l.contains x = k.contains x) : ∀ x, (g ++ l).contains x = (g ++ k).contains x := fun x => by
 have := h x
 simp only [List.contains_eq_mem, List.mem_append, Bool.decide_or] at this ⊢
 rw [this]
mutual
theorem bodyE_same {nf : Nat} : ∀ (t : Anf) {l k : List Int}, (∀ x, l.contains x = k.contains x) → bodyE nf l t = bodyE nf k t
 | .ret a, l, k, h => by
  unfold bodyE
  rw [asks_same h]
 | .bind x k n ats ks bl rest, l, m, h => by
  have h10 : ∀ y, (if k = 10 then groupV ks ++ l else l).contains y = (if k = 10 then groupV ks ++ m else m).contains y := by
   by_cases hk : k = 10
   · rw [if_pos hk, if_pos hk]; exact app_same _ h
   · rw [if_neg hk, if_neg hk]; exact h
  have h11 : ∀ y, (if k = 10 then groupV ks ++ l else x :: l).contains y = (if k = 10 then groupV ks ++ m else x :: m).contains y := by
   by_cases hk : k = 10
   · rw [if_pos hk, if_pos hk]; exact app_same _ h
   · rw [if_neg hk, if_neg hk]; exact app_same [x] h
  unfold bodyE
  rw [asks_all h10, blocksE_same bl h10, bodyE_same rest h11]
theorem blocksE_same {nf : Nat} : ∀ (cs : List Anf) {l k : List Int}, (∀ x, l.contains x = k.contains x) → blocksE nf l cs = blocksE nf k cs
 | [], l, k, h => by unfold blocksE; rfl
 | c :: cs, l, k, h => by
  unfold blocksE
  rw [bodyE_same c h, blocksE_same cs h]
end
theorem group_head {nf : Nat} {x n : Int} {ats : List Atm} {ks : List Int} {nb : Nat} (h : BindOk nf x 10 n ats ks nb) : x ∈ groupV ks := by
 have h1 := h.count
 unfold countB at h1
 simp only [show ¬ ((10 : Int) = 6) by decide, show ¬ ((10 : Int) = 2 ∧ twoF n = true) by simp, show ¬ ((10 : Int) = 3) by decide, show ¬ ((10 : Int) = 9) by decide, show ¬ ((10 : Int) = 8) by decide, if_false, if_true, Bool.and_eq_true, decide_eq_true_eq, beq_iff_eq] at h1
 have h3 := h1.1.1.1.2
 have hx := h1.2
 match ks, h3, hx with
 | a :: b :: c :: r, _, hx =>
  simp [nth] at hx
  simp [groupV, hx]
theorem block_bind {nf : Nat} {l : List Int} {x k n : Int} {ats : List Atm} {ks : List Int} {bl : List Anf} {rest : Anf} : bodyE nf l (.bind x k n ats ks bl rest) = if bindR nf x k n ats ks l bl.length ≠ 0 then bindR nf x k n ats ks l bl.length else if blocksE nf l bl ≠ 0 then blocksE nf l bl else bodyE nf (l ++ (if k = 10 then groupV ks else []) ++ [x]) rest := by
 have hsame : ats.all (asksB (if k = 10 then l ++ groupV ks else l)) = ats.all (asksB (if k = 10 then groupV ks ++ l else l)) := by
  refine asks_all (fun y => ?_) ats
  by_cases hk : k = 10
  · rw [if_pos hk, if_pos hk]
    simp only [List.contains_eq_mem, List.mem_append, decide_eq_decide]
    exact Or.comm
  · rw [if_neg hk, if_neg hk]
 unfold bindR
 rw [hsame]
 by_cases hb : bindE nf x k n ats ks bl.length = 0
 · rw [bodyE_bind hb]
   have hok := bindOk_of hb
   rw [hb]
   simp only [ne_eq, not_true_eq_false, if_false]
   by_cases ha : ats.all (asksB (if k = 10 then groupV ks ++ l else l)) = false
   · rw [if_pos ha, if_pos ha]
     simp
   · rw [if_neg ha, if_neg ha]
     simp only [not_true_eq_false, if_false]
     by_cases hk : k = 10
     · subst hk
       obtain rfl := bind_noblocks hok (by decide)
       simp only [if_true, blocksE, ne_eq, not_true_eq_false, if_false]
       refine bodyE_same rest (fun y => ?_)
       have hm := group_head hok
       simp only [List.contains_eq_mem, List.mem_append, decide_eq_decide, List.mem_singleton]
       constructor
       · rintro (h | h)
         · exact .inl (.inr h)
         · exact .inl (.inl h)
       · rintro ((h | h) | h)
         · exact .inr h
         · exact .inl h
         · exact .inl (h ▸ hm)
     · simp only [if_neg hk]
       by_cases hbl : blocksE nf l bl = 0
       · simp only [hbl, ne_eq, not_true_eq_false, if_false, List.append_nil]
         refine bodyE_same rest (fun y => ?_)
         simp only [List.contains_eq_mem, List.mem_append, decide_eq_decide, List.mem_cons, List.not_mem_nil, or_false]
         exact Or.comm
       · simp only [ne_eq, hbl, not_false_eq_true, if_true]
 · rw [bodyE_wrong hb]
   simp only [ne_eq, hb, not_false_eq_true, if_true]
noncomputable def bkr0 : Code := match Tryz.f27.body with
 | some (.seq c _) => c
 | _ => .skip
noncomputable def bkL : Code := match Tryz.f27.body with
 | some (.seq _ (.seq c _)) => c
 | _ => .skip
structure BkS (nf : Nat) (W0 : World) (t : Anf) (out : Int) (j : Nat) (A' : Option Addr) (c' : Nat) (l' l : List Int) (wr : World) : Prop where
 bel : Below W0.heap.size W0 wr
 ints : IntsIn wr.heap.size wr A' l'
 cap : l'.length ≤ c'
 out : out = bodyE nf l' (t.tail j)
 b : l'.length + szA (t.tail j) ≤ l.length + szA t
theorem own_none {base : Nat} {e : TypeId} {w : World} {v : Value} {n m : Nat} {xs : List Value} (h : w.ownsRow base e 1 v n xs) (hn : n = m) : w.ownsRow base e 1 v m xs := hn ▸ h
theorem own_below {w w' : World} {base : Nat} {e : TypeId} {size : Nat} {v : Value} {n : Nat} {xs : List Value} (h : w.ownsRow base e size v n xs) (hb : Below w.heap.size w w') : w'.ownsRow base e size v n xs := ownsRow_same h (fun k hk => hb.block k (h.lt k hk).2)
theorem rblock_any {nf : Nat} (hnf : nf ≤ 1000000) {B : Nat} (t : Anf) : ∀ (l : List Int) (w : World) (v : Array Value) (A2 : Option Addr) (c2 : Nat), BodyIn B w t v → B ≤ w.heap.size → IntsIn w.heap.size w A2 l → l.length ≤ c2 → l.length + szA t ≤ 1000000000 →
 Calls Tryz.prog 27 #[.agg v, .int .i64 (nf : Int), .slice A2 l.length c2] w (IntBelow (bodyE nf l t) w) := by
 induction hs : SizeOf.sizeOf t using Nat.strongRecOn generalizing t with
 | _ sz ih =>
  subst hs
  intro l w v A2 c2 hin hBW hl hlc hb
  obtain ⟨A, c, b, o, rfl, hc, h96, hA, hB⟩ := hin.at_
  obtain ⟨W0, hW0⟩ : ∃ W0, w.alloc (.cells #[.slice A t.len c, .bool t.last.v, .int .i64 t.last.n] 27) = W0 := ⟨_, rfl⟩
  have hb0 : Below w.heap.size w W0 := by rw [← hW0]; exact (Below.refl _ _).alloc (Nat.le_refl _) _
  have hs0 : W0.heap.size = w.heap.size + 1 := by rw [← hW0]; simp
  have hn0 : W0.heap[w.heap.size]? = some (.cells #[.slice A t.len c, .bool t.last.v, .int .i64 t.last.n] 27 (0, 0)) := by rw [← hW0]; exact World.alloc_heap_new w _
  have HC := Lib.hid (fun (V : World) (hV : Below W0.heap.size W0 V) => (show V.cell? ⟨w.heap.size, 0, none⟩ = some (.slice A t.len c) ∧ V.cell? ⟨w.heap.size, 1, none⟩ = some (.bool t.last.v) ∧ V.cell? ⟨w.heap.size, 2, none⟩ = some (.int .i64 t.last.n) from
   ⟨(hV.cell (p := ⟨_, _, none⟩) (by simp; omega)).trans (by simp [World.cell?, hn0]), (hV.cell (p := ⟨_, _, none⟩) (by simp; omega)).trans (by simp [World.cell?, hn0]), (hV.cell (p := ⟨_, _, none⟩) (by simp; omega)).trans (by simp [World.cell?, hn0])⟩))
  obtain ⟨cB, cC, cD⟩ := HC.out W0 (Below.refl _ _)
  have HBV := Lib.hid (fun (V : World) (hV : Below W0.heap.size W0 V) => (show Below B w V ∧ Below w.heap.size w V ∧ B ≤ V.heap.size from
   ⟨(hb0.mono hBW).trans (hV.mono (by omega)), hb0.trans (hV.mono hb0.size), by have := hV.size; omega⟩))
  have HBI := Lib.hid (fun (j : Nat) (hj : j < t.len) (V : World) (hV : Below W0.heap.size W0 V) =>
   (show ∃ x k nn ats ks bl Aa ca Ak ck Al cl, A = some ⟨b, o, none⟩ ∧ t.tail j = .bind x k nn ats ks bl (t.tail (j + 1)) ∧ (V.cell? ⟨b, o + j * 6, none⟩ = some (.int .i64 x) ∧ V.cell? ⟨b, o + j * 6 + 1, none⟩ = some (.int .i64 k) ∧ V.cell? ⟨b, o + j * 6 + 2, none⟩ = some (.int .i64 nn) ∧
    V.cell? ⟨b, o + j * 6 + 3, none⟩ = some (.slice Aa ats.length ca) ∧ V.cell? ⟨b, o + j * 6 + 4, none⟩ = some (.slice Ak ks.length ck) ∧ V.cell? ⟨b, o + j * 6 + 5, none⟩ = some (.slice Al bl.length cl)) ∧
    Hid (∀ V2 : World, Below W0.heap.size W0 V2 → AtomsIn V2.heap.size V2 Aa ats ∧ IntsIn V2.heap.size V2 Ak ks) ∧ ats.length ≤ ca ∧ ks.length ≤ ck ∧ bl.length ≤ cl ∧ bl.length * 40 ≤ 140737488351232 ∧
    Hid (∀ q (hq : q < bl.length) (V2 : World), Below W0.heap.size W0 V2 → ∃ bb oo A0 n0 c0 r0 r1, Al = some ⟨bb, oo, none⟩ ∧ V2.cell? ⟨bb, oo + q * 3, none⟩ = some (.slice A0 n0 c0) ∧ V2.cell? ⟨bb, oo + q * 3 + 1, none⟩ = some (.bool r0) ∧ V2.cell? ⟨bb, oo + q * 3 + 2, none⟩ = some (.int .i64 r1) ∧
     ∀ (V3 : World) (A3 : Option Addr) (c3 : Nat) (l3 : List Int), Below W0.heap.size W0 V3 → IntsIn V3.heap.size V3 A3 l3 → l3.length ≤ c3 → l3.length + szA bl[q] ≤ 1000000000 → Calls Tryz.prog 27 #[.agg #[.slice A0 n0 c0, .bool r0, .int .i64 r1], .int .i64 (nf : Int), .slice A3 l3.length c3] V3 (IntBelow (bodyE nf l3 bl[q]) V3)) from by
    obtain ⟨x, k, nn, ats, ks, bl, Aa, ca, Ak, ck, Al, cl, h1, h2⟩ := hB j hj
    have hbV := (HBV.out V hV).1
    refine ⟨x, k, nn, ats, ks, bl, Aa, ca, Ak, ck, Al, cl, hA (by omega), h1, ⟨(hbV.cell (p := ⟨_, _, none⟩) h2.lt).trans h2.c0, (hbV.cell (p := ⟨_, _, none⟩) h2.lt).trans h2.c1, (hbV.cell (p := ⟨_, _, none⟩) h2.lt).trans h2.c2, (hbV.cell (p := ⟨_, _, none⟩) h2.lt).trans h2.c3, (hbV.cell (p := ⟨_, _, none⟩) h2.lt).trans h2.c4, (hbV.cell (p := ⟨_, _, none⟩) h2.lt).trans h2.c5⟩,
     Lib.hid (fun V2 hV2 => ⟨(h2.ha.below (HBV.out V2 hV2).1).mono (HBV.out V2 hV2).2.2, (h2.hk.below (HBV.out V2 hV2).1).mono (HBV.out V2 hV2).2.2⟩), h2.hac, h2.hkc, h2.hlc, h2.hl8, Lib.hid (fun q hq V2 hV2 => ?_)⟩
    obtain ⟨bb, oo, g0, g1, g2, e1, e2, e3, e4, e5, hbd⟩ := h2.blk q hq
    have hbV2 := (HBV.out V2 hV2).1
    have hbd0 := hbd
    obtain ⟨A0, d0, b0, o0, hvv, -⟩ := hbd.at_
    simp only [Array.mk.injEq, List.cons.injEq, and_true] at hvv
    obtain ⟨rfl, rfl, rfl⟩ := hvv
    refine ⟨bb, oo, A0, _, d0, _, _, e1, (hbV2.cell (p := ⟨_, _, none⟩) e2).trans e3, (hbV2.cell (p := ⟨_, _, none⟩) e2).trans e4, (hbV2.cell (p := ⟨_, _, none⟩) e2).trans e5, fun V3 A3 c3 l3 hV3 hi3 hc3 hl3 => ?_⟩
    exact ih _ (size_block h1 (List.getElem_mem hq)) bl[q] rfl l3 V3 _ A3 c3 (hbd0.kept (HBV.out V3 hV3).1) (HBV.out V3 hV3).2.2 hi3 hc3 hl3))
  have HT := Lib.hid (Anf.tail_ret t)
  obtain ⟨out, hout⟩ : ∃ o, bodyE nf l t = o := ⟨_, rfl⟩
  have HST := Lib.hid (show BkS nf W0 t out 0 A2 c2 l l W0 from ⟨Below.refl _ _, (hl.below hb0).mono hb0.size, hlc, by rw [Anf.tail_zero]; exact hout.symm, by rw [Anf.tail_zero]; simp⟩)
  have HB := Lib.hid hb
  rw [hout]
  have HS0 := Lib.hid hs0
  have HT64 := Lib.hid h96
  have H18 := Lib.hid (fun (V : World) (A' : Option Addr) (c' : Nat) (l' : List Int) (hV : Below W0.heap.size W0 V) (hi : IntsIn V.heap.size V A' l') (hcc : l'.length ≤ c') (ho : out = if atomB ⟨t.last.v, t.last.n⟩ = false then 2 else if asksB l' ⟨t.last.v, t.last.n⟩ = false then 16 else 0) (y0 y1 y4 y5 y6 y7 y8 y9 y10 y11 y12 y13 y14 y15 y16 y17 y18 y19 y20 y21 y22 y23 y24 y25 y26 y27 y28 y29 y30 y31 y32 y33 y34 y35 y36 y37 y38 y39 y40 y41 y42 y43 y44 y45 y46 y47 y48 y49 y50 y51 y52 y53 y54 y55 y56 y57 y58 y59 y60 y61 y62 y63 y64 y65 y66 y67 y68 y69 y70 y71 y72 y73 y74 y75 y76 y77 y78 y79 y80 y81 y82 y83 y84 y85 y86 y87 y88 y89 y90 y91 y92 y93 y94 y95 y96 y97 : Value) => bk_T18 (HBV.out V hV).2.1 (HC.out V hV).1 (HC.out V hV).2.1 (HC.out V hV).2.2 hi hcc ho y0 y1 y4 y5 y6 y7 y8 y9 y10 y11 y12 y13 y14 y15 y16 y17 y18 y19 y20 y21 y22 y23 y24 y25 y26 y27 y28 y29 y30 y31 y32 y33 y34 y35 y36 y37 y38 y39 y40 y41 y42 y43 y44 y45 y46 y47 y48 y49 y50 y51 y52 y53 y54 y55 y56 y57 y58 y59 y60 y61 y62 y63 y64 y65 y66 y67 y68 y69 y70 y71 y72 y73 y74 y75 y76 y77 y78 y79 y80 y81 y82 y83 y84 y85 y86 y87 y88 y89 y90 y91 y92 y93 y94 y95 y96 y97)
  clear hin hBW hl hlc hb hB ih hA hn0 hb0 hs0 hout
  obtain ⟨T, hT⟩ : ∃ T, t.len = T := ⟨_, rfl⟩
  rw [hT] at hc HC HBI HT HT64 cB hW0 ⊢
  clear hT h96
  go_enter Tryz.func27, Tryz.ntmps27
  show (Code.seq bkr0 (Code.seq bkL bkT18)).wp Tryz.prog _ _ _
  obtain ⟨T18, hT18⟩ : ∃ c, bkT18 = c := ⟨_, rfl⟩
  obtain ⟨Q, hQ⟩ : ∃ Q, (bodyPost Tryz.prog Tryz.f27 (IntBelow out w)) = Q := ⟨_, rfl⟩
  rw [hT18, hQ] at H18
  rw [hT18, hQ]
  have HQ := Lib.hid hQ
  clear hT18 hQ
  obtain ⟨i0, hinf, hz0, hz1, hz2⟩ := info_parts infoI
  unfold bkr0 bkL Tryz.f27
  dsimp only
  go_wp2_with fail
  go_loopw [2, 7] (fun kv iv wr => ∃ (j : Nat) (A' : Option Addr) (c' : Nat) (l' : List Int), j ≤ T ∧ iv = .int .i64 (j : Int) ∧ kv = .slice A' l'.length c' ∧ Hid (BkS nf W0 t out j A' c' l' l wr)) (fun _ iv _ => T + 1 - (intOf iv).toNat)
  case atStart => exact ⟨0, A2, c2, l, by omega, rfl, rfl, HST⟩
  case round =>
   obtain ⟨wo, rfl⟩ : ∃ wo, wo = wr := ⟨_, rfl⟩
   obtain ⟨j, A', c', l', hj, rfl, rfl, HJ⟩ := hrel
   obtain ⟨r1, r2, r3⟩ := HC.out wo HJ.out.bel
   by_cases hlt : j < T
   · obtain ⟨x, k, n2, ats, ks, bl, Aa, ca, Ak, ck, Al, cl, rfl, htail, ⟨s0, s1, s2, s3, s4, s5⟩, HLI, hac, hkc, hblc, hb40, HBL⟩ := HBI.out j hlt wo HJ.out.bel
     have e1 : (0 : Int) ≤ (j : Int) := by omega
     have e2 : (j : Int) < (T : Int) := by omega
     have e4 : IntKind.i64.wrap ((j : Int) + 1) = (j : Int) + 1 := by rw [IntKind.wrap_i64]; have := HT64.out; omega
     have e5 : (T : Int) ≤ (c : Int) := by omega
     have hsz : szA (t.tail j) = 1 + ks.length + szL bl + szA (t.tail (j + 1)) := by rw [htail]; rfl
     have HSZ := Lib.hid (show l'.length + (1 + ks.length + szL bl + szA (t.tail (j + 1))) ≤ l.length + szA t ∧ l'.length + (1 + ks.length + szL bl + szA (t.tail (j + 1))) ≤ 1000000000 from by have h1 := HJ.out.b; have h2 := HB.out; omega)
     have HBD := Lib.hid (rbind_any hnf x k n2 (Al := Al) (nb := bl.length) (cb := cl) (HLI.out wo HJ.out.bel).1 hac (HLI.out wo HJ.out.bel).2 hkc HJ.out.ints HJ.out.cap (by have := HSZ.out; omega))
     have HOUT := Lib.hid ((HJ.out.out.trans (congrArg (bodyE nf l') htail)).trans block_bind)
     clear htail hsz
     obtain ⟨be, hbe⟩ : ∃ z, bindR nf x k n2 ats ks l' bl.length = z := ⟨_, rfl⟩
     rw [hbe] at HBD HOUT
     clear hbe
     go_wp2_with fail
     refine HBD.out.mono ?_
     rintro en w2 ⟨rfl, hb2⟩
     dsimp only
     have HB2 := Lib.hid (HJ.out.bel.trans (hb2.mono HJ.out.bel.size))
     have HI2 := Lib.hid ((HJ.out.ints.below hb2).mono hb2.size)
     obtain ⟨x0, x1, x2⟩ := HC.out w2 HB2.out
     obtain ⟨p0, p1, p2, p3, p4, p5⟩ := (show w2.cell? ⟨b, o + j * 6, none⟩ = some (.int .i64 x) ∧ w2.cell? ⟨b, o + j * 6 + 1, none⟩ = some (.int .i64 k) ∧ w2.cell? ⟨b, o + j * 6 + 2, none⟩ = some (.int .i64 n2) ∧ w2.cell? ⟨b, o + j * 6 + 3, none⟩ = some (.slice Aa ats.length ca) ∧ w2.cell? ⟨b, o + j * 6 + 4, none⟩ = some (.slice Ak ks.length ck) ∧ w2.cell? ⟨b, o + j * 6 + 5, none⟩ = some (.slice Al bl.length cl) from ⟨cell_behind hb2 s0, cell_behind hb2 s1, cell_behind hb2 s2, cell_behind hb2 s3, cell_behind hb2 s4, cell_behind hb2 s5⟩)
     clear hb2 HBD s0 s1 s2 s3 s4 s5 r1 r2 r3
     by_cases hz : be = 0
     · subst hz
       have HO2 := Lib.hid (show out = if blocksE nf l' bl ≠ 0 then blocksE nf l' bl else bodyE nf (l' ++ (if k = 10 then groupV ks else []) ++ [x]) (t.tail (j + 1)) from HOUT.out.trans (by simp))
       clear HOUT
       obtain ⟨W3, hW3⟩ : ∃ W3, w2.alloc (.cells #[.int .i64 k, .int .i64 n2, .slice Aa ats.length ca, .slice Ak ks.length ck, .slice Al bl.length cl] 60) = W3 := ⟨_, rfl⟩
       have hb3 : Below w2.heap.size w2 W3 := by rw [← hW3]; exact (Below.refl _ _).alloc (Nat.le_refl _) _
       have hn3 : W3.heap[w2.heap.size]? = some (.cells #[.int .i64 k, .int .i64 n2, .slice Aa ats.length ca, .slice Ak ks.length ck, .slice Al bl.length cl] 60 (0, 0)) := by rw [← hW3]; exact World.alloc_heap_new w2 _
       have HS3 := Lib.hid (show w2.heap.size < W3.heap.size from by rw [← hW3]; simp)
       have HB3 := Lib.hid (HB2.out.trans (hb3.mono HB2.out.size))
       have HI3 := Lib.hid ((HI2.out.below hb3).mono hb3.size)
       have HD := Lib.hid (fun (V : World) (hV : Below W3.heap.size W3 V) => (show (V.cell? ⟨w2.heap.size, 0, none⟩ = some (.int .i64 k) ∧ V.cell? ⟨w2.heap.size, 1, none⟩ = some (.int .i64 n2) ∧ V.cell? ⟨w2.heap.size, 2, none⟩ = some (.slice Aa ats.length ca) ∧ V.cell? ⟨w2.heap.size, 3, none⟩ = some (.slice Ak ks.length ck) ∧ V.cell? ⟨w2.heap.size, 4, none⟩ = some (.slice Al bl.length cl)) ∧ V.cell? ⟨b, o + j * 6, none⟩ = some (.int .i64 x) from by
        have h := (hV.block w2.heap.size HS3.out).trans hn3
        exact ⟨⟨by simp [World.cell?, h], by simp [World.cell?, h], by simp [World.cell?, h], by simp [World.cell?, h], by simp [World.cell?, h]⟩, cell_behind hV (cell_behind hb3 p0)⟩))
       have HIV := Lib.hid (fun (V : World) (hV : Below W3.heap.size W3 V) => (show Below W0.heap.size W0 V ∧ IntsIn V.heap.size V A' l' from ⟨HB3.out.trans (hV.mono HB3.out.size), (HI3.out.below hV).mono hV.size⟩))
       clear hb3 hn3
       go_wp2_with fail
       go_loopw [8, 10] (fun ev iv wr2 => ∃ q : Nat, q ≤ bl.length ∧ iv = .int .i64 (q : Int) ∧ ev = .int .i64 0 ∧ Hid (Below W3.heap.size W3 wr2) ∧ Hid (blocksE nf l' bl = blocksE nf l' (bl.drop q))) (fun _ iv _ => bl.length + 1 - (intOf iv).toNat)
       case atStart => exact ⟨0, by omega, rfl, rfl, Lib.hid (Below.refl _ _), Lib.hid (by simp)⟩
       case round =>
        obtain ⟨wq, rfl⟩ : ∃ wq, wq = wr := ⟨_, rfl⟩
        obtain ⟨q, hq, rfl, rfl, HQ3, HBQ⟩ := hrel
        obtain ⟨⟨f0, f1, f2, f3, f4⟩, f5⟩ := HD.out wq HQ3.out
        obtain ⟨g1, g2, g3⟩ := HC.out wq (HIV.out wq HQ3.out).1
        by_cases hlq : q < bl.length
        · obtain ⟨bb, oo, A0, n0, c0', r0', r1', rfl, v0, v1, v2, hcall⟩ := HBL.out q hlq wq (HIV.out wq HQ3.out).1
          have HCALL := Lib.hid (hcall wq A' c' l' (HIV.out wq HQ3.out).1 (HIV.out wq HQ3.out).2 HJ.out.cap (by have h1 := HSZ.out.2; have h3 := szL_at (bl := bl) _ (List.getElem_mem hlq); omega))
          have HBS := Lib.hid (HBQ.out.trans (blocksE_drop hlq))
          have d1 : (0 : Int) ≤ (q : Int) := by omega
          have d2 : (q : Int) < (bl.length : Int) := by omega
          have d3 : (bl.length : Int) ≤ (cl : Int) := by omega
          have d4 : IntKind.i64.wrap ((q : Int) + 1) = (q : Int) + 1 := by rw [IntKind.wrap_i64]; omega
          obtain ⟨ez, hez⟩ : ∃ z, bodyE nf l' bl[q] = z := ⟨_, rfl⟩
          rw [hez] at HCALL HBS
          clear hcall hez
          go_wp2_with fail
          refine HCALL.out.mono ?_
          rintro en w5 ⟨rfl, hb5⟩
          dsimp only
          have HQ5 := Lib.hid (HQ3.out.trans (hb5.mono HQ3.out.size))
          clear hb5 HCALL
          by_cases hz5 : ez = 0
          · subst hz5
            have HBN := Lib.hid (show blocksE nf l' bl = blocksE nf l' (bl.drop (q + 1)) from HBS.out.trans (by simp))
            clear HBS
            go_wp2_with fail
            go_roundw
            case rel => exact ⟨q + 1, by omega, by go_num, rfl, HQ5, HBN⟩
            case measure => simp [intOf]; omega
          · have HF := Lib.hid (show out = ez from by
             have h1 : blocksE nf l' bl = ez := HBS.out.trans (by rw [if_pos hz5])
             exact HO2.out.trans (by rw [h1, if_pos hz5]))
            have hz6 : (ez == 0) = false := by simpa using hz5
            have hz7 : (ez != 0) = true := by simpa using hz5
            clear hz5 HBS
            go_wp2_with fail
            rw [← HQ.out]
            go_ret
            exact ⟨ret_int HF.out.symm, (HBV.out _ (HIV.out _ HQ5.out).1).2.1⟩
        · have f2' : ¬ (q : Int) < (bl.length : Int) := by omega
          have HO3 := Lib.hid (show out = bodyE nf (l' ++ (if k = 10 then groupV ks else []) ++ [x]) (t.tail (j + 1)) from HO2.out.trans (by
           have h1 := HBQ.out
           rw [List.drop_of_length_le (by omega)] at h1
           have h2 : blocksE nf l' bl = 0 := h1
           rw [if_neg (by simp [h2])]))
          have HWQ := Lib.hid (HIV.out wq HQ3.out)
          have HLL := Lib.hid (rfl : l'.length = l'.length)
          have HVAR := Lib.hid (fun (V2 : World) (h : Below wq.heap.size wq V2) => rvars_any k n2 Aa Ak Al ats.length ca ck bl.length cl ks V2 (HLI.out V2 (HWQ.out.1.trans (h.mono HWQ.out.1.size))).2 hkc)
          have HGL := Lib.hid (groupV_len ks)
          obtain ⟨W6, hW6⟩ : ∃ W6, wq.alloc (.cells #[] 3) = W6 := ⟨_, rfl⟩
          have HB6 := Lib.hid (show Below wq.heap.size wq W6 from by rw [← hW6]; exact (Below.refl _ _).alloc (Nat.le_refl _) _)
          have HOE := Lib.hid (show W6.ownsRow wq.heap.size 3 1 (.slice (some ⟨wq.heap.size, 0, none⟩) 0 0) 0 [] from by rw [← hW6]; exact own_empty wq (Nat.le_refl _) _ _)
          have HR6 := Lib.hid (ints_row (HWQ.out.2.below HB6.out))
          have hml0 : 0 + l'.length ≤ maxLen := by have := HSZ.out.2; unfold maxLen; omega
          have hmb0 : (0 + l'.length) * 8 ≤ 140737488355328 := by have := HSZ.out.2; omega
          by_cases hk : k = 10
          · subst hk
            obtain ⟨G, hG⟩ : ∃ G, groupV ks = G := ⟨_, rfl⟩
            rw [hG] at HVAR HO3 HGL
            clear hG
            have hml2 : 0 + l'.length + G.length ≤ maxLen := by have := HSZ.out.2; have := HGL.out; unfold maxLen; omega
            have hmb2 : (0 + l'.length + G.length) * 8 ≤ 140737488355328 := by have := HSZ.out.2; have := HGL.out; omega
            have hml3 : 0 + l'.length + G.length + 1 ≤ maxLen := by have := HSZ.out.2; have := HGL.out; unfold maxLen; omega
            have hmb3 : (0 + l'.length + G.length + 1) * 8 ≤ 140737488355328 := by have := HSZ.out.2; have := HGL.out; omega
            go_wp2_with (at_builtin; (refine wpList_append_row _ rfl _ _ 30 rfl wq.heap.size 3 i0 (.int .i64 0) 1 8 undI hinf hz0 hz1 hz2 rfl (by decide) _ 0 [] rfl HOE.out A' l'.length c' (iv l') rfl (by simp [iv]) HR6.out (iv_one l') hml0 hmb0 HB6.out.size ?_; intro v7 w7 hown_ hgrow_ hat_; have HQ7 := Lib.hid (grown_below HB6.out hgrow_ (own_ge HOE.out)); have HB7 := Lib.hid (HQ3.out.trans (HQ7.out.mono HQ3.out.size)); obtain ⟨⟨a0, a1, a2, a3, a4⟩, a5⟩ := HD.out w7 HB7.out; obtain ⟨b1, b2, b3⟩ := HC.out w7 (HIV.out w7 HB7.out).1; have HO7 := Lib.hid hown_; have HG7 := Lib.hid (Nat.le_trans HB6.out.size hgrow_.size); clear hown_ hgrow_ hat_))
            refine (HVAR.out w7 HQ7.out).mono ?_
            rintro en w8 ⟨Ag, cg, rfl, hi8, hc8, hge8, hb8⟩
            dsimp only
            have HQ8 := Lib.hid (HQ7.out.trans (hb8.mono HQ7.out.size))
            have HB8 := Lib.hid (HQ3.out.trans (HQ8.out.mono HQ3.out.size))
            have HO8 := Lib.hid (own_below HO7.out hb8)
            have HR8 := Lib.hid (ints_row hi8)
            have HG8 := Lib.hid HQ8.out.size
            have HO4 := Lib.hid (show out = bodyE nf (l' ++ G ++ [x]) (t.tail (j + 1)) from HO3.out.trans (by simp))
            clear hi8 hge8 hb8 HO3 a0 a1 a2 a3 a4 a5 b1 b2 b3
            go_wp2_with (at_builtin; first | (refine wpList_append_row _ rfl _ _ 30 rfl wq.heap.size 3 i0 (.int .i64 0) 1 8 undI hinf hz0 hz1 hz2 rfl (by decide) _ _ _ rfl HO8.out Ag G.length cg (iv G) rfl (by simp [iv]) HR8.out (iv_one G) hml2 hmb2 HG8.out ?_; intro v10 w10 hown_ hgrow_ hat_; have HQ10 := Lib.hid (grown_below HQ8.out hgrow_ (own_ge HO8.out)); have HB10 := Lib.hid (HQ3.out.trans (HQ10.out.mono HQ3.out.size)); obtain ⟨⟨a0, a1, a2, a3, a4⟩, a5⟩ := HD.out w10 HB10.out; obtain ⟨b1, b2, b3⟩ := HC.out w10 (HIV.out w10 HB10.out).1; have HO10 := Lib.hid hown_; have HG10 := Lib.hid HQ10.out.size; clear hown_ hgrow_ hat_) | (refine wpList_append_own_at _ rfl _ _ 30 rfl wq.heap.size 3 i0 (.int .i64 0) 1 8 undI hinf hz0 hz1 hz2 rfl (by decide) _ _ _ rfl (HO10.out.alloc _) ⟨w10.heap.size, 0, none⟩ 1 1 [.int .i64 x] rfl rfl (cell_one_new _ _ _) (by simp [Value.oneCell']) hml3 hmb3 (by rw [World.size_alloc]; exact Nat.le_succ_of_le HG10.out) ?_; intro v9 w9 hown9 hgrow9 _ hat9))
            change World.grownBy _ w9 v10.ownBlock at hgrow9
            have hal : Below w10.heap.size w10 (w10.alloc (.cells #[.int .i64 x] 3)) := (Below.refl _ _).alloc (Nat.le_refl _) _
            have hb9 : Below wq.heap.size wq w9 := grown_below ((HQ10.out).trans (hal.mono HG10.out)) hgrow9 (fun g hg => (HO10.out.lt g hg).1)
            have HB9 := Lib.hid ((HWQ.out.1).trans (hb9.mono HWQ.out.1.size))
            obtain ⟨A9, c9, rfl, hi9, hc9⟩ := own_intsD (xs := (l' ++ G) ++ [x]) (own_none (xs := ((l' ++ G) ++ [x]).map (Value.int .i64)) (by simpa [iv] using hown9) rfl) (by have := HSZ.out.2; have := HGL.out; simp; omega)
            have HN := Lib.hid (show BkS nf W0 t out (j + 1) A9 c9 ((l' ++ G) ++ [x]) l w9 from ⟨HB9.out, hi9, hc9, HO4.out, by have := HSZ.out.1; have := HGL.out; simp; omega⟩)
            clear hgrow9 hown9 hat9 hal hb9 hi9 hc9
            go_roundw
            case rel => exact ⟨j + 1, A9, c9, (l' ++ G) ++ [x], by omega, by go_num, rfl, HN⟩
            case measure => simp [intOf]; omega
          · have hk1 : (k == 10) = false := by simpa using hk
            have hk2 : (k != 10) = true := by simpa using hk
            have HO4 := Lib.hid (show out = bodyE nf (l' ++ [x]) (t.tail (j + 1)) from HO3.out.trans (by rw [if_neg hk, List.append_nil]))
            have hml1 : 0 + l'.length + 1 ≤ maxLen := by have := HSZ.out.2; unfold maxLen; omega
            have hmb1 : (0 + l'.length + 1) * 8 ≤ 140737488355328 := by have := HSZ.out.2; omega
            clear hk HO3
            go_wp2_with (at_builtin; first | (refine wpList_append_row _ rfl _ _ 30 rfl wq.heap.size 3 i0 (.int .i64 0) 1 8 undI hinf hz0 hz1 hz2 rfl (by decide) _ 0 [] rfl HOE.out A' l'.length c' (iv l') rfl (by simp [iv]) HR6.out (iv_one l') hml0 hmb0 HB6.out.size ?_; intro v7 w7 hown_ hgrow_ hat_; have HQ7 := Lib.hid (grown_below HB6.out hgrow_ (own_ge HOE.out)); have HB7 := Lib.hid (HQ3.out.trans (HQ7.out.mono HQ3.out.size)); obtain ⟨⟨a0, a1, a2, a3, a4⟩, a5⟩ := HD.out w7 HB7.out; obtain ⟨b1, b2, b3⟩ := HC.out w7 (HIV.out w7 HB7.out).1; have HO7 := Lib.hid hown_; have HG7 := Lib.hid (Nat.le_trans HB6.out.size hgrow_.size); clear hown_ hgrow_ hat_) | (refine wpList_append_own_at _ rfl _ _ 30 rfl wq.heap.size 3 i0 (.int .i64 0) 1 8 undI hinf hz0 hz1 hz2 rfl (by decide) _ _ _ rfl (HO7.out.alloc _) ⟨w7.heap.size, 0, none⟩ 1 1 [.int .i64 x] rfl rfl (cell_one_new _ _ _) (by simp [Value.oneCell']) hml1 hmb1 (by rw [World.size_alloc]; exact Nat.le_succ_of_le HG7.out) ?_; intro v9 w9 hown9 hgrow9 _ hat9))
            change World.grownBy _ w9 v7.ownBlock at hgrow9
            have hal : Below w7.heap.size w7 (w7.alloc (.cells #[.int .i64 x] 3)) := (Below.refl _ _).alloc (Nat.le_refl _) _
            have hb9 : Below wq.heap.size wq w9 := grown_below ((HQ7.out).trans (hal.mono HG7.out)) hgrow9 (fun g hg => (HO7.out.lt g hg).1)
            have HB9 := Lib.hid ((HWQ.out.1).trans (hb9.mono HWQ.out.1.size))
            obtain ⟨A9, c9, rfl, hi9, hc9⟩ := own_intsD (xs := (l') ++ [x]) (own_none (xs := ((l') ++ [x]).map (Value.int .i64)) (by simpa [iv] using hown9) rfl) (by have := HSZ.out.2; have := HGL.out; simp; omega)
            have HN := Lib.hid (show BkS nf W0 t out (j + 1) A9 c9 ((l') ++ [x]) l w9 from ⟨HB9.out, hi9, hc9, HO4.out, by have := HSZ.out.1; have := HGL.out; simp; omega⟩)
            clear hgrow9 hown9 hat9 hal hb9 hi9 hc9
            go_roundw
            case rel => exact ⟨j + 1, A9, c9, (l') ++ [x], by omega, by go_num, rfl, HN⟩
            case measure => simp [intOf]; omega
     · have HF := Lib.hid (show out = be from HOUT.out.trans (by rw [if_pos hz]))
       have hz6 : (be == 0) = false := by simpa using hz
       have hz7 : (be != 0) = true := by simpa using hz
       clear HOUT hz
       go_wp2_with fail
       rw [← HQ.out]
       go_ret
       exact ⟨ret_int HF.out.symm, (HBV.out _ HB2.out).2.1⟩
   · have e2 : ¬ (j : Int) < (T : Int) := by omega
     have ho := HJ.out.out
     rw [HT.out j (by omega)] at ho
     have HO := Lib.hid (show out = (if atomB ⟨t.last.v, t.last.n⟩ = false then 2 else if asksB l' ⟨t.last.v, t.last.n⟩ = false then 16 else 0) from ho)
     clear ho
     go_wp2_with fail
     exact H18.out _ _ _ _ HJ.out.bel HJ.out.ints HJ.out.cap HO.out _ _ _ _ _ _ _ _ _ _ _ _ _ _ _ _ _ _ _ _ _ _ _ _ _ _ _ _ _ _ _ _ _ _ _ _ _ _ _ _ _ _ _ _ _ _ _ _ _ _ _ _ _ _ _ _ _ _ _ _ _ _ _ _ _ _ _ _ _ _ _ _ _ _ _ _ _ _ _ _ _ _ _ _ _ _ _ _ _ _ _ _ _ _ _ _
end Go.Proofs.YtnobggabjpcbfaaGreat
