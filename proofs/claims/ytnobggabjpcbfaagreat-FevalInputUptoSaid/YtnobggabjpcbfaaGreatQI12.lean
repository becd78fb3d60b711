/-
 1 texts of this seat in one: D12.
-/
import Derived.Test.YtnobggabjpcbfaaGreatQI11
set_option maxRecDepth 100000
set_option maxHeartbeats 16000000
set_option linter.unusedVariables false
set_option linter.unusedSimpArgs false
namespace Go.Proofs.YtnobggabjpcbfaaGreat
open Go.RowKit
mutual
def totA : Anf → Nat
 | .ret _ => 0
 | .bind _ _ _ _ _ bl r => 1 + totL bl + totA r
def totL : List Anf → Nat
 | [] => 0
 | c :: cs => totA c + totL cs
end
mutual
theorem totA_le : ∀ (t : Anf), totA t ≤ szA t
 | .ret _ => Nat.le_refl _
 | .bind _ _ _ _ ks bl r => by
  have h1 := totL_le bl
  have h2 := totA_le r
  show 1 + totL bl + totA r ≤ 1 + ks.length + szL bl + szA r
  omega
theorem totL_le : ∀ (l : List Anf), totL l ≤ szL l
 | [] => Nat.le_refl _
 | c :: cs => by
  have h1 := totA_le c
  have h2 := totL_le cs
  show totA c + totL cs ≤ szA c + szL cs
  omega
end
def subA : Anf → Nat
 | .ret _ => 0
 | .bind _ _ _ _ _ bl r => totL bl + subA r
theorem subA_len : ∀ (t : Anf), t.len + subA t = totA t
 | .ret _ => rfl
 | .bind _ _ _ _ ks bl r => by
  have h2 := subA_len r
  show r.len + 1 + (totL bl + subA r) = 1 + totL bl + totA r
  omega
mutual
theorem sizeA_le (most : Int) : ∀ (t : Anf) (n : Int), n ≤ sizeA most t n ∧ sizeA most t n ≤ n + subA t
 | .ret _, n => by simp [sizeA, subA]
 | .bind _ _ _ _ _ bl r, n => by
  have h1 := sizeL_le most bl n
  have h2 := sizeA_le most r (sizeL most bl n).1
  show n ≤ (if (sizeL most bl n).2 then (sizeL most bl n).1 else sizeA most r (sizeL most bl n).1) ∧ (if (sizeL most bl n).2 then (sizeL most bl n).1 else sizeA most r (sizeL most bl n).1) ≤ n + ((totL bl + subA r : Nat) : Int)
  split <;> omega
theorem sizeL_le (most : Int) : ∀ (l : List Anf) (n : Int), n ≤ (sizeL most l n).1 ∧ (sizeL most l n).1 ≤ n + totL l
 | [], n => by simp [sizeL, totL]
 | c :: cs, n => by
  unfold sizeL
  have h1 := sizeA_le most c c.len
  have h2 := sizeL_le most cs (n + sizeA most c c.len)
  have h3 := subA_len c
  have h4 : totL (c :: cs) = totA c + totL cs := rfl
  split
  · exact ⟨Int.le_refl _, by omega⟩
  · constructor <;> omega
end
theorem sizeB_le (most : Int) (t : Anf) : 0 ≤ sizeB t most ∧ sizeB t most ≤ totA t := by
 have h1 := sizeA_le most t t.len
 have h2 := subA_len t
 unfold sizeB
 omega
theorem sizeL_drop {most n : Int} : ∀ {bl : List Anf} {q : Nat} (hq : q < bl.length), sizeL most (bl.drop q) n = if n > most then (n, true) else sizeL most (bl.drop (q + 1)) (n + sizeB bl[q] most)
 | c :: cs, 0, _ => by
  rw [List.drop_zero]
  conv => lhs; unfold sizeL
  simp [sizeB]
 | c :: cs, q + 1, hq => by
  have := sizeL_drop (most := most) (n := n) (bl := cs) (q := q) (by simpa using hq)
  simpa using this
theorem totL_drop : ∀ {bl : List Anf} {q : Nat} (hq : q < bl.length), totL (bl.drop q) = totA bl[q] + totL (bl.drop (q + 1))
 | c :: cs, 0, _ => by simp [totL]
 | c :: cs, q + 1, hq => by
  have := totL_drop (bl := cs) (q := q) (by simpa using hq)
  simpa using this
mutual
theorem deepA_le : ∀ (t : Anf) (m : Nat) (n : Int), n ≤ deepA t m n ∧ deepA t m n ≤ max n ((m : Int) + 1)
 | .ret _, m, n => by simp [deepA]; omega
 | .bind _ _ _ _ _ bl r, m, n => by
  have h1 := deepL_le bl m n
  have h2 := deepA_le r m (deepL bl m n)
  show n ≤ deepA r m (deepL bl m n) ∧ deepA r m (deepL bl m n) ≤ max n ((m : Int) + 1)
  omega
theorem deepL_le : ∀ (l : List Anf) (m : Nat) (n : Int), n ≤ deepL l m n ∧ deepL l m n ≤ max n ((m : Int) + 1)
 | [], m, n => by simp [deepL]; omega
 | c :: cs, 0, n => by
  have h2 := deepL_le cs 0 n
  show n ≤ deepL cs 0 n ∧ deepL cs 0 n ≤ max n (((0 : Nat) : Int) + 1)
  exact h2
 | c :: cs, m + 1, n => by
  have h1 := deepA_le c m 0
  have h2 := deepL_le cs (m + 1) (max n (deepA c m 0 + 1))
  show n ≤ deepL cs (m + 1) (max n (deepA c m 0 + 1)) ∧ deepL cs (m + 1) (max n (deepA c m 0 + 1)) ≤ max n (((m + 1 : Nat) : Int) + 1)
  omega
end
theorem deepL_drop0 {n : Int} : ∀ {bl : List Anf}, deepL bl 0 n = n
 | [] => rfl
 | c :: cs => by
  show deepL cs 0 n = n
  exact deepL_drop0
theorem deepL_drop {m : Nat} {n : Int} : ∀ {bl : List Anf} {q : Nat} (hq : q < bl.length), deepL (bl.drop q) (m + 1) n = deepL (bl.drop (q + 1)) (m + 1) (max n (deepB bl[q] m))
 | c :: cs, 0, _ => by simp [deepL, deepB]
 | c :: cs, q + 1, hq => by
  have := deepL_drop (m := m) (n := n) (bl := cs) (q := q) (by simpa using hq)
  simpa using this
section
theorem size_any (t : Anf) : ∀ (W : World) (v : Array Value), BodyIn W.heap.size W t v → totA t ≤ 1000000000 → ∀ most : Int, -1000000000 ≤ most → most ≤ 1000000000 →
 Calls Tryz.prog 32 #[.agg v, .int .i64 most] W fun e w' => e = .returned (.int .i64 (sizeB t most)) ∧ Below W.heap.size W w' := by
 induction hs : SizeOf.sizeOf t using Nat.strongRecOn generalizing t with
 | _ sz ih =>
  subst hs
  intro W v hin htot most hm1 hm2
  obtain ⟨A, c, b, o, rfl, hc, h96, hA, hB⟩ := hin.at_
  obtain ⟨W0, hW0⟩ : ∃ W0, W.alloc (.cells #[.slice A t.len c, .bool t.last.v, .int .i64 t.last.n] 27) = W0 := ⟨_, rfl⟩
  have hb0 : Below W.heap.size W W0 := by rw [← hW0]; exact (Below.refl _ _).alloc (Nat.le_refl _) _
  have hs0 : W.heap.size < W0.heap.size := by rw [← hW0]; simp
  have e0 : W0.cell? ⟨W.heap.size, 0, none⟩ = some (.slice A t.len c) := by rw [← hW0, World.cell?_alloc_at _ _ _ _ rfl]; rfl
  have HBI := Lib.hid (fun (i : Nat) (hi : i < t.len) (V : World) (hV : Below W0.heap.size W0 V) =>
   (show ∃ x k nn ats ks bl Aa ca Ak ck Al cl, A = some ⟨b, o, none⟩ ∧ b < W.heap.size ∧ Hid (t.tail i = .bind x k nn ats ks bl (t.tail (i + 1))) ∧ (V.cell? ⟨b, o + i * 6, none⟩ = some (.int .i64 x) ∧ V.cell? ⟨b, o + i * 6 + 1, none⟩ = some (.int .i64 k) ∧ V.cell? ⟨b, o + i * 6 + 2, none⟩ = some (.int .i64 nn) ∧ V.cell? ⟨b, o + i * 6 + 3, none⟩ = some (.slice Aa (List.length ats) ca) ∧ V.cell? ⟨b, o + i * 6 + 4, none⟩ = some (.slice Ak (List.length ks) ck) ∧ V.cell? ⟨b, o + i * 6 + 5, none⟩ = some (.slice Al (List.length bl) cl)) ∧ (List.length bl) ≤ cl ∧ (List.length bl) * 40 ≤ 140737488351232 ∧
    Hid (∀ j (h : j < (List.length bl)) (V2 : World) (h2 : Below V.heap.size V V2), ∃ bb oo A0 n0 c0 r0 r1, Al = some ⟨bb, oo, none⟩ ∧ V2.cell? ⟨bb, oo + j * 3, none⟩ = some (.slice A0 n0 c0) ∧ V2.cell? ⟨bb, oo + j * 3 + 1, none⟩ = some (.bool r0) ∧ V2.cell? ⟨bb, oo + j * 3 + 2, none⟩ = some (.int .i64 r1) ∧
     ∀ (V3 : World), Below V2.heap.size V2 V3 → totA bl[j] ≤ 1000000000 → Calls Tryz.prog 32 #[.agg #[.slice A0 n0 c0, .bool r0, .int .i64 r1], .int .i64 most] V3 fun e w' => e = .returned (.int .i64 (sizeB bl[j] most)) ∧ Below V3.heap.size V3 w') from by
    obtain ⟨x, k, nn, ats, ks, bl, Aa, ca, Ak, ck, Al, cl, he, hbi⟩ := hB i hi
    have hV0 : Below W.heap.size W V := hb0.trans (hV.mono hb0.size)
    refine ⟨x, k, nn, ats, ks, bl, Aa, ca, Ak, ck, Al, cl, hA (by omega), hbi.lt, Lib.hid he, ⟨(hV0.cell (p := ⟨_, _, none⟩) hbi.lt).trans hbi.c0, (hV0.cell (p := ⟨_, _, none⟩) hbi.lt).trans hbi.c1, (hV0.cell (p := ⟨_, _, none⟩) hbi.lt).trans hbi.c2, (hV0.cell (p := ⟨_, _, none⟩) hbi.lt).trans hbi.c3, (hV0.cell (p := ⟨_, _, none⟩) hbi.lt).trans hbi.c4, (hV0.cell (p := ⟨_, _, none⟩) hbi.lt).trans hbi.c5⟩, hbi.hlc, hbi.hl8, Lib.hid (fun j hj V2 h2 => ?_)⟩
    obtain ⟨bb, oo, g0, g1, g2, e1, e2, e3, e4, e5, hbd⟩ := hbi.blk j hj
    have hV2 : Below W.heap.size W V2 := hV0.trans (h2.mono hV0.size)
    have hbd0 := hbd
    obtain ⟨A0, c0, b0, o0, hv, -⟩ := hbd.at_
    simp only [Array.mk.injEq, List.cons.injEq, and_true] at hv
    obtain ⟨rfl, rfl, rfl⟩ := hv
    refine ⟨bb, oo, A0, _, c0, _, _, e1, (hV2.cell (p := ⟨_, _, none⟩) e2).trans e3, (hV2.cell (p := ⟨_, _, none⟩) e2).trans e4, (hV2.cell (p := ⟨_, _, none⟩) e2).trans e5, fun V3 h3 => ?_⟩
    have hV3 : Below W.heap.size W V3 := hV2.trans (h3.mono hV2.size)
    have hlt := size_block he (List.getElem_mem hj)
    exact fun ht => ih _ hlt bl[j] rfl V3 _ ((hbd0.kept hV3).mono hV3.size) ht most hm1 hm2))
  have HB0 := Lib.hid hb0
  have HS0 := Lib.hid hs0
  have HT := Lib.hid (Anf.tail_ret t)
  have HLE := Lib.hid (fun (i : Nat) (n : Int) => sizeA_le most (t.tail i) n)
  have hsub := subA_len t
  clear ih hB hin hb0 hA hs0
  obtain ⟨FIN, hFIN⟩ : ∃ z, sizeB t most = z := ⟨_, rfl⟩
  have HF := Lib.hid (show FIN = sizeA most (t.tail 0) t.len from by rw [Anf.tail_zero]; exact hFIN.symm)
  rw [hFIN]
  clear hFIN
  obtain ⟨tl, htl⟩ : ∃ tl, t.len = tl := ⟨_, rfl⟩
  have HSUB := Lib.hid (show tl + subA (t.tail 0) ≤ 1000000000 from by rw [Anf.tail_zero, ← htl]; omega)
  rw [htl] at e0 HBI HT h96 hc hW0 HF ⊢
  have htl8 : tl ≤ 1000000000 := by have := HSUB.out; omega
  clear h96 htl htot hsub
  generalize t.last.v = lv at *
  generalize t.last.n = ln at *
  go_enter Tryz.func32, Tryz.ntmps32
  go_wp2_with fail
  go_loopw [5, 16] (fun n i wr => ∃ (j : Nat) (m : Int), j ≤ tl ∧ i = .int .i64 (j : Int) ∧ n = .int .i64 m ∧ Hid (Below W0.heap.size W0 wr) ∧ 0 ≤ m ∧ Hid (m + (subA (t.tail j) : Int) ≤ 1000000000) ∧ Hid (FIN = sizeA most (t.tail j) m)) (fun _ i _ => tl + 1 - (intOf i).toNat)
  case atStart => exact ⟨0, tl, by omega, rfl, rfl, Lib.hid (Below.refl _ _), by omega, Lib.hid (by have := HSUB.out; omega), HF⟩
  case round =>
   obtain ⟨wo, rfl⟩ : ∃ wo, wo = wr := ⟨_, rfl⟩
   obtain ⟨j, m, hj, rfl, rfl, hbel, hm3, hm4, heq⟩ := hrel
   have q0 := (hbel.out.cell (p := ⟨W.heap.size, 0, none⟩) HS0.out).trans e0
   by_cases hlt : j < tl
   · have hj0 : (0 : Int) ≤ (j : Int) := by omega
     have hjl : (j : Int) < (tl : Int) := by omega
     have hjc : (tl : Int) ≤ (c : Int) := by omega
     obtain ⟨x, k, nn, ats, ks, bl, Aa, ca, Ak, ck, Al, cl, rfl, hbW, htail, ⟨s0, s1, s2, s3, s4, s5⟩, l3, l4, HBL⟩ := HBI.out j hlt wo hbel.out
     have HST := Lib.hid (show FIN = (if (sizeL most (bl.drop 0) m).2 then (sizeL most (bl.drop 0) m).1 else sizeA most (t.tail (j + 1)) (sizeL most (bl.drop 0) m).1) from by rw [List.drop_zero]; exact heq.out.trans (by rw [htail.out]; rfl))
     have HSB := Lib.hid (show m + ((totL (bl.drop 0) + subA (t.tail (j + 1)) : Nat) : Int) ≤ 1000000000 from by rw [List.drop_zero]; have := hm4.out; rw [htail.out] at this; exact this)
     clear heq htail hm4
     obtain ⟨W1, hW1⟩ : ∃ W1, wo.alloc (.cells #[.int .i64 x, .int .i64 k, .int .i64 nn, .slice Aa ats.length ca, .slice Ak ks.length ck, .slice Al bl.length cl] 62) = W1 := ⟨_, rfl⟩
     have hb1 : Below wo.heap.size wo W1 := by rw [← hW1]; exact (Below.refl _ _).alloc (Nat.le_refl _) _
     have hs1 : wo.heap.size < W1.heap.size := by rw [← hW1]; simp
     have r5 : W1.cell? ⟨wo.heap.size, 5, none⟩ = some (.slice Al bl.length cl) := by rw [← hW1, World.cell?_alloc_at _ _ _ _ rfl]; rfl
     have w3 : IntKind.i64.wrap ((j : Int) + 1) = (j : Int) + 1 := by rw [IntKind.wrap_i64]; omega
     go_wp2_with fail
     go_loopw [5, 24] (fun n2 kk wr2 => ∃ (q : Nat) (m2 : Int), q ≤ bl.length ∧ kk = .int .i64 (q : Int) ∧ n2 = .int .i64 m2 ∧ Hid (Below W1.heap.size W1 wr2) ∧ 0 ≤ m2 ∧ Hid (m2 + ((totL (bl.drop q) + subA (t.tail (j + 1)) : Nat) : Int) ≤ 1000000000) ∧ Hid (FIN = (if (sizeL most (bl.drop q) m2).2 then (sizeL most (bl.drop q) m2).1 else sizeA most (t.tail (j + 1)) (sizeL most (bl.drop q) m2).1))) (fun _ kk _ => bl.length + 1 - (intOf kk).toNat)
     case atStart => exact ⟨0, m, by omega, rfl, rfl, Lib.hid (Below.refl _ _), hm3, HSB, HST⟩
     case round =>
      obtain ⟨wq, rfl⟩ : ∃ wq, wq = wr := ⟨_, rfl⟩
      obtain ⟨q, m2, hq, rfl, rfl, hbel2, hn1, hn2, heq2⟩ := hrel
      have hbo : Below wo.heap.size wo wq := hb1.trans (hbel2.out.mono hb1.size)
      have HBO := Lib.hid hbo
      clear hbo
      have q0' := (HBO.out.cell (p := ⟨W.heap.size, 0, none⟩) (Nat.lt_of_lt_of_le HS0.out hbel.out.size)).trans q0
      by_cases hlq : q < bl.length
      · have hq0 : (0 : Int) ≤ (q : Int) := by omega
        have hql : (q : Int) < (bl.length : Int) := by omega
        have hqc : (bl.length : Int) ≤ (cl : Int) := by omega
        have w4 : IntKind.i64.wrap ((q : Int) + 1) = (q : Int) + 1 := by rw [IntKind.wrap_i64]; omega
        obtain ⟨bb, oo, A0, n0, c0', v0, v1, rfl, y0, y1, y2, hC⟩ := HBL.out q hlq wq HBO.out
        obtain ⟨W4, hW4⟩ : ∃ W4, wq.alloc (.cells #[.slice A0 n0 c0', .bool v0, .int .i64 v1] 27) = W4 := ⟨_, rfl⟩
        have hb4 : Below wq.heap.size wq W4 := by rw [← hW4]; exact (Below.refl _ _).alloc (Nat.le_refl _) _
        have p0 : W4.cell? ⟨wq.heap.size, 0, none⟩ = some (.slice A0 n0 c0') := by rw [← hW4, World.cell?_alloc_at _ _ _ _ rfl]; rfl
        have p1 : W4.cell? ⟨wq.heap.size, 1, none⟩ = some (.bool v0) := by rw [← hW4, World.cell?_alloc_at _ _ _ _ rfl]; rfl
        have p2 : W4.cell? ⟨wq.heap.size, 2, none⟩ = some (.int .i64 v1) := by rw [← hW4, World.cell?_alloc_at _ _ _ _ rfl]; rfl
        have HB4 := Lib.hid hb4
        have HD := Lib.hid (totL_drop hlq)
        have HSD := Lib.hid (sizeL_drop (most := most) (n := m2) hlq)
        by_cases hmq : m2 > most
        · have HE := Lib.hid (show FIN = m2 from heq2.out.trans (by rw [HSD.out, if_pos hmq]; rfl))
          have hmq' : most < m2 := hmq
          clear hC hb4
          go_wp2_with fail
          go_ret
          exact ⟨ret_int HE.out.symm, HB0.out.trans ((hbel.out.trans ((HBO.out.trans (HB4.out.mono HBO.out.size)).mono hbel.out.size)).mono (Nat.le_of_lt HS0.out))⟩
        · have hmq' : ¬ most < m2 := hmq
          have HC := Lib.hid (hC W4 hb4 (by have h1 := hn2.out; have h2 := HD.out; omega))
          have HN := Lib.hid (show FIN = (if (sizeL most (bl.drop (q + 1)) (m2 + sizeB bl[q] most)).2 then (sizeL most (bl.drop (q + 1)) (m2 + sizeB bl[q] most)).1 else sizeA most (t.tail (j + 1)) (sizeL most (bl.drop (q + 1)) (m2 + sizeB bl[q] most)).1) from heq2.out.trans (by rw [HSD.out, if_neg hmq]))
          have hsz := sizeB_le most bl[q]
          have hnn : m2 + sizeB bl[q] most + ((totL (bl.drop (q + 1)) + subA (t.tail (j + 1)) : Nat) : Int) ≤ 1000000000 := by have h1 := hn2.out; have h2 := HD.out; omega
          have HNN := Lib.hid hnn
          have w5 : IntKind.i64.wrap (m2 + sizeB bl[q] most) = m2 + sizeB bl[q] most := by rw [IntKind.wrap_i64]; omega
          have hpos : 0 ≤ m2 + sizeB bl[q] most := by omega
          clear hC hb4 heq2 hsz hnn
          generalize sizeB bl[q] most = sz at *
          go_wp2_with fail
          refine HC.out.mono ?_
          rintro e w5 ⟨rfl, hb5⟩
          have HB5 := Lib.hid (show Below W1.heap.size W1 w5 from hbel2.out.trans ((HB4.out.trans (hb5.mono HB4.out.size)).mono hbel2.out.size))
          clear hb5
          go_wp2_with fail
          go_roundw
          case rel => exact ⟨q + 1, m2 + sz, by omega, by go_num, by first | rfl | go_num, HB5, hpos, HNN, HN⟩
          case measure => simp [intOf]; omega
      · have hql : ¬ (q : Int) < (bl.length : Int) := by omega
        have hdr : bl.drop q = [] := List.drop_eq_nil_iff.2 (by omega)
        have HE := Lib.hid (show FIN = sizeA most (t.tail (j + 1)) m2 from heq2.out.trans (by rw [hdr]; rfl))
        have HNN := Lib.hid (show m2 + (subA (t.tail (j + 1)) : Int) ≤ 1000000000 from by have := hn2.out; rw [hdr] at this; simp [totL] at this; omega)
        clear heq2 hdr
        go_wp2_with fail
        go_roundw
        case rel => exact ⟨j + 1, m2, by omega, by go_num, rfl, Lib.hid (hbel.out.trans (HBO.out.mono hbel.out.size)), hn1, HNN, HE⟩
        case measure => simp [intOf]; omega
   · have hjl : ¬ (j : Int) < (tl : Int) := by omega
     have HE := Lib.hid (show FIN = m from heq.out.trans (by rw [HT.out j (by omega)]; rfl))
     clear heq
     go_wp2_with fail
     go_ret
     exact ⟨ret_int HE.out.symm, HB0.out.trans (hbel.out.mono (Nat.le_of_lt HS0.out))⟩
theorem deep_any (t : Anf) : ∀ (W : World) (v : Array Value), BodyIn W.heap.size W t v → ∀ most : Nat, most ≤ 1000000 →
 Calls Tryz.prog 33 #[.agg v, .int .i64 (most : Int)] W fun e w' => e = .returned (.int .i64 (deepB t most)) ∧ Below W.heap.size W w' := by
 induction hs : SizeOf.sizeOf t using Nat.strongRecOn generalizing t with
 | _ sz ih =>
  subst hs
  intro W v hin most hm
  obtain ⟨A, c, b, o, rfl, hc, h96, hA, hB⟩ := hin.at_
  obtain ⟨W0, hW0⟩ : ∃ W0, W.alloc (.cells #[.slice A t.len c, .bool t.last.v, .int .i64 t.last.n] 27) = W0 := ⟨_, rfl⟩
  have hb0 : Below W.heap.size W W0 := by rw [← hW0]; exact (Below.refl _ _).alloc (Nat.le_refl _) _
  have hs0 : W.heap.size < W0.heap.size := by rw [← hW0]; simp
  have e0 : W0.cell? ⟨W.heap.size, 0, none⟩ = some (.slice A t.len c) := by rw [← hW0, World.cell?_alloc_at _ _ _ _ rfl]; rfl
  have HBI := Lib.hid (fun (i : Nat) (hi : i < t.len) (V : World) (hV : Below W0.heap.size W0 V) =>
   (show ∃ x k nn ats ks bl Aa ca Ak ck Al cl, A = some ⟨b, o, none⟩ ∧ b < W.heap.size ∧ Hid (t.tail i = .bind x k nn ats ks bl (t.tail (i + 1))) ∧ (V.cell? ⟨b, o + i * 6, none⟩ = some (.int .i64 x) ∧ V.cell? ⟨b, o + i * 6 + 1, none⟩ = some (.int .i64 k) ∧ V.cell? ⟨b, o + i * 6 + 2, none⟩ = some (.int .i64 nn) ∧ V.cell? ⟨b, o + i * 6 + 3, none⟩ = some (.slice Aa (List.length ats) ca) ∧ V.cell? ⟨b, o + i * 6 + 4, none⟩ = some (.slice Ak (List.length ks) ck) ∧ V.cell? ⟨b, o + i * 6 + 5, none⟩ = some (.slice Al (List.length bl) cl)) ∧ (List.length bl) ≤ cl ∧ (List.length bl) * 40 ≤ 140737488351232 ∧
    Hid (∀ j (h : j < (List.length bl)) (V2 : World) (h2 : Below V.heap.size V V2), ∃ bb oo A0 n0 c0 r0 r1, Al = some ⟨bb, oo, none⟩ ∧ V2.cell? ⟨bb, oo + j * 3, none⟩ = some (.slice A0 n0 c0) ∧ V2.cell? ⟨bb, oo + j * 3 + 1, none⟩ = some (.bool r0) ∧ V2.cell? ⟨bb, oo + j * 3 + 2, none⟩ = some (.int .i64 r1) ∧
     ∀ (V3 : World), Below V2.heap.size V2 V3 → ∀ m : Nat, m ≤ 1000000 → Calls Tryz.prog 33 #[.agg #[.slice A0 n0 c0, .bool r0, .int .i64 r1], .int .i64 (m : Int)] V3 fun e w' => e = .returned (.int .i64 (deepB bl[j] m)) ∧ Below V3.heap.size V3 w') from by
    obtain ⟨x, k, nn, ats, ks, bl, Aa, ca, Ak, ck, Al, cl, he, hbi⟩ := hB i hi
    have hV0 : Below W.heap.size W V := hb0.trans (hV.mono hb0.size)
    refine ⟨x, k, nn, ats, ks, bl, Aa, ca, Ak, ck, Al, cl, hA (by omega), hbi.lt, Lib.hid he, ⟨(hV0.cell (p := ⟨_, _, none⟩) hbi.lt).trans hbi.c0, (hV0.cell (p := ⟨_, _, none⟩) hbi.lt).trans hbi.c1, (hV0.cell (p := ⟨_, _, none⟩) hbi.lt).trans hbi.c2, (hV0.cell (p := ⟨_, _, none⟩) hbi.lt).trans hbi.c3, (hV0.cell (p := ⟨_, _, none⟩) hbi.lt).trans hbi.c4, (hV0.cell (p := ⟨_, _, none⟩) hbi.lt).trans hbi.c5⟩, hbi.hlc, hbi.hl8, Lib.hid (fun j hj V2 h2 => ?_)⟩
    obtain ⟨bb, oo, g0, g1, g2, e1, e2, e3, e4, e5, hbd⟩ := hbi.blk j hj
    have hV2 : Below W.heap.size W V2 := hV0.trans (h2.mono hV0.size)
    have hbd0 := hbd
    obtain ⟨A0, c0, b0, o0, hv, -⟩ := hbd.at_
    simp only [Array.mk.injEq, List.cons.injEq, and_true] at hv
    obtain ⟨rfl, rfl, rfl⟩ := hv
    refine ⟨bb, oo, A0, _, c0, _, _, e1, (hV2.cell (p := ⟨_, _, none⟩) e2).trans e3, (hV2.cell (p := ⟨_, _, none⟩) e2).trans e4, (hV2.cell (p := ⟨_, _, none⟩) e2).trans e5, fun V3 h3 => ?_⟩
    have hV3 : Below W.heap.size W V3 := hV2.trans (h3.mono hV2.size)
    have hlt := size_block he (List.getElem_mem hj)
    exact fun m hm => ih _ hlt bl[j] rfl V3 _ ((hbd0.kept hV3).mono hV3.size) m hm))
  have HB0 := Lib.hid hb0
  have HS0 := Lib.hid hs0
  have HT := Lib.hid (Anf.tail_ret t)
  have HLE := Lib.hid (fun (i : Nat) (n : Int) => deepA_le (t.tail i) most n)
  clear ih hB hin hb0 hA hs0
  obtain ⟨FIN, hFIN⟩ : ∃ z, deepB t most = z := ⟨_, rfl⟩
  have HF := Lib.hid (show FIN = deepA (t.tail 0) most 0 + 1 from by rw [Anf.tail_zero]; exact hFIN.symm)
  rw [hFIN]
  clear hFIN
  have htl8 : t.len ≤ 2000000000000 := by omega
  obtain ⟨tl, htl⟩ : ∃ tl, t.len = tl := ⟨_, rfl⟩
  rw [htl] at e0 HBI HT h96 hc hW0 htl8 ⊢
  clear h96 htl
  generalize t.last.v = lv at *
  generalize t.last.n = ln at *
  go_enter Tryz.func33, Tryz.ntmps33
  go_wp2_with fail
  go_loopw [5, 13] (fun n i wr => ∃ (j : Nat) (m : Int), j ≤ tl ∧ i = .int .i64 (j : Int) ∧ n = .int .i64 m ∧ Hid (Below W0.heap.size W0 wr) ∧ 0 ≤ m ∧ m ≤ 1000001 ∧ Hid (FIN = deepA (t.tail j) most m + 1)) (fun _ i _ => tl + 1 - (intOf i).toNat)
  case atStart => exact ⟨0, 0, by omega, rfl, rfl, Lib.hid (Below.refl _ _), by omega, by omega, HF⟩
  case round =>
   obtain ⟨wo, rfl⟩ : ∃ wo, wo = wr := ⟨_, rfl⟩
   obtain ⟨j, m, hj, rfl, rfl, hbel, hm3, hm4, heq⟩ := hrel
   have q0 := (hbel.out.cell (p := ⟨W.heap.size, 0, none⟩) HS0.out).trans e0
   by_cases hlt : j < tl
   · have hj0 : (0 : Int) ≤ (j : Int) := by omega
     have hjl : (j : Int) < (tl : Int) := by omega
     have hjc : (tl : Int) ≤ (c : Int) := by omega
     obtain ⟨x, k, nn, ats, ks, bl, Aa, ca, Ak, ck, Al, cl, rfl, hbW, htail, ⟨s0, s1, s2, s3, s4, s5⟩, l3, l4, HBL⟩ := HBI.out j hlt wo hbel.out
     have HST := Lib.hid (show FIN = deepA (t.tail (j + 1)) most (deepL (bl.drop 0) most m) + 1 from by rw [List.drop_zero]; exact heq.out.trans (by rw [htail.out]; rfl))
     clear heq htail
     obtain ⟨W1, hW1⟩ : ∃ W1, wo.alloc (.cells #[.int .i64 x, .int .i64 k, .int .i64 nn, .slice Aa ats.length ca, .slice Ak ks.length ck, .slice Al bl.length cl] 62) = W1 := ⟨_, rfl⟩
     have hb1 : Below wo.heap.size wo W1 := by rw [← hW1]; exact (Below.refl _ _).alloc (Nat.le_refl _) _
     have hs1 : wo.heap.size < W1.heap.size := by rw [← hW1]; simp
     have r5 : W1.cell? ⟨wo.heap.size, 5, none⟩ = some (.slice Al bl.length cl) := by rw [← hW1, World.cell?_alloc_at _ _ _ _ rfl]; rfl
     have w3 : IntKind.i64.wrap ((j : Int) + 1) = (j : Int) + 1 := by rw [IntKind.wrap_i64]; omega
     go_wp2_with fail
     go_loopw [5, 21] (fun n2 kk wr2 => ∃ (q : Nat) (m2 : Int), q ≤ bl.length ∧ kk = .int .i64 (q : Int) ∧ n2 = .int .i64 m2 ∧ Hid (Below W1.heap.size W1 wr2) ∧ 0 ≤ m2 ∧ m2 ≤ 1000001 ∧ Hid (FIN = deepA (t.tail (j + 1)) most (deepL (bl.drop q) most m2) + 1)) (fun _ kk _ => bl.length + 1 - (intOf kk).toNat)
     case atStart => exact ⟨0, m, by omega, rfl, rfl, Lib.hid (Below.refl _ _), hm3, hm4, HST⟩
     case round =>
      obtain ⟨wq, rfl⟩ : ∃ wq, wq = wr := ⟨_, rfl⟩
      obtain ⟨q, m2, hq, rfl, rfl, hbel2, hn1, hn2, heq2⟩ := hrel
      have hbo : Below wo.heap.size wo wq := hb1.trans (hbel2.out.mono hb1.size)
      have HBO := Lib.hid hbo
      clear hbo
      have q0' := (HBO.out.cell (p := ⟨W.heap.size, 0, none⟩) (Nat.lt_of_lt_of_le HS0.out hbel.out.size)).trans q0
      by_cases hlq : q < bl.length
      · have hq0 : (0 : Int) ≤ (q : Int) := by omega
        have hql : (q : Int) < (bl.length : Int) := by omega
        have hqc : (bl.length : Int) ≤ (cl : Int) := by omega
        have w4 : IntKind.i64.wrap ((q : Int) + 1) = (q : Int) + 1 := by rw [IntKind.wrap_i64]; omega
        obtain ⟨bb, oo, A0, n0, c0', v0, v1, rfl, y0, y1, y2, hC⟩ := HBL.out q hlq wq HBO.out
        obtain ⟨W4, hW4⟩ : ∃ W4, wq.alloc (.cells #[.slice A0 n0 c0', .bool v0, .int .i64 v1] 27) = W4 := ⟨_, rfl⟩
        have hb4 : Below wq.heap.size wq W4 := by rw [← hW4]; exact (Below.refl _ _).alloc (Nat.le_refl _) _
        have p0 : W4.cell? ⟨wq.heap.size, 0, none⟩ = some (.slice A0 n0 c0') := by rw [← hW4, World.cell?_alloc_at _ _ _ _ rfl]; rfl
        have p1 : W4.cell? ⟨wq.heap.size, 1, none⟩ = some (.bool v0) := by rw [← hW4, World.cell?_alloc_at _ _ _ _ rfl]; rfl
        have p2 : W4.cell? ⟨wq.heap.size, 2, none⟩ = some (.int .i64 v1) := by rw [← hW4, World.cell?_alloc_at _ _ _ _ rfl]; rfl
        have HB4 := Lib.hid hb4
        have HB14 := Lib.hid (show Below W1.heap.size W1 W4 from hbel2.out.trans (hb4.mono hbel2.out.size))
        by_cases hmq : most = 0
        · have hmq' : ¬ (0 : Int) < (most : Int) := by omega
          have HE := Lib.hid (show FIN = deepA (t.tail (j + 1)) most (deepL (bl.drop (q + 1)) most m2) + 1 from heq2.out.trans (by rw [hmq, deepL_drop0, deepL_drop0]))
          have HMQ := Lib.hid hmq
          clear hC hb4 hmq
          go_wp2_with fail
          go_roundw
          case rel => exact ⟨q + 1, m2, by omega, by go_num, rfl, HB14, hn1, hn2, HE⟩
          case measure => simp [intOf]; omega
        · have hmq' : (0 : Int) < (most : Int) := by omega
          obtain ⟨mp, hmp⟩ : ∃ mp, most = mp + 1 := ⟨most - 1, by omega⟩
          have HC := Lib.hid (hC W4 hb4 mp (by omega))
          have HN := Lib.hid (show FIN = deepA (t.tail (j + 1)) most (deepL (bl.drop (q + 1)) most (max m2 (deepB bl[q] mp))) + 1 from heq2.out.trans (by rw [hmp, deepL_drop hlq]))
          have hsz := deepA_le bl[q] mp 0
          have hmx1 : 0 ≤ max m2 (deepB bl[q] mp) ∧ max m2 (deepB bl[q] mp) ≤ 1000001 ∨ 1000001 < deepB bl[q] mp := by unfold deepB; omega
          have hdb : deepB bl[q] mp ≤ 1000001 := by unfold deepB; omega
          have w5 : IntKind.i64.wrap ((most : Int) - 1) = (mp : Int) := by rw [IntKind.wrap_i64]; omega
          have HMP := Lib.hid hmp
          clear hC hb4 heq2 hsz hmp hmq
          generalize deepB bl[q] mp = sz at *
          go_wp2_with fail
          refine HC.out.mono ?_
          rintro e w5 ⟨rfl, hb5⟩
          have HB5 := Lib.hid (show Below W1.heap.size W1 w5 from HB14.out.trans (hb5.mono HB14.out.size))
          clear hb5
          go_wp2_with fail
          go_roundw
          case rel => exact ⟨q + 1, max m2 sz, by omega, by go_num, by first | rfl | (simp; omega) | (congr 1; omega), HB5, by omega, by omega, HN⟩
          case measure => simp [intOf]; omega
      · have hql : ¬ (q : Int) < (bl.length : Int) := by omega
        have hdr : bl.drop q = [] := List.drop_eq_nil_iff.2 (by omega)
        have HE := Lib.hid (show FIN = deepA (t.tail (j + 1)) most m2 + 1 from heq2.out.trans (by rw [hdr]; rfl))
        clear heq2 hdr
        go_wp2_with fail
        go_roundw
        case rel => exact ⟨j + 1, m2, by omega, by go_num, rfl, Lib.hid (hbel.out.trans (HBO.out.mono hbel.out.size)), hn1, hn2, HE⟩
        case measure => simp [intOf]; omega
   · have hjl : ¬ (j : Int) < (tl : Int) := by omega
     have HE := Lib.hid (show FIN = m + 1 from heq.out.trans (by rw [HT.out j (by omega)]; rfl))
     have w5 : IntKind.i64.wrap (m + 1) = m + 1 := by rw [IntKind.wrap_i64]; omega
     clear heq
     go_wp2_with fail
     go_ret
     exact ⟨ret_int HE.out.symm, HB0.out.trans (hbel.out.mono (Nat.le_of_lt HS0.out))⟩
end
end Go.Proofs.YtnobggabjpcbfaaGreat
