/-
 1 texts of this seat in one: D14.
-/
import Derived.Test.YtnobggabjpcbfaaGreatQI13
set_option maxRecDepth 100000
set_option maxHeartbeats 16000000
set_option linter.unusedVariables false
set_option linter.unusedSimpArgs false
namespace Go.Proofs.YtnobggabjpcbfaaGreat
open Go.RowKit Go.Maps
def szFuns : List FFun → Nat
 | [] => 0
 | g :: gs => 2 + szA g.body + szFuns gs
structure SmallF (p : FlatP) : Prop where
 size : szFuns p.funs + szA p.main ≤ 100000000
 rng : ∀ g ∈ p.funs, rngA g.body
 rngm : rngA p.main
theorem szFuns_drop : ∀ {l : List FFun} {j : Nat} (h : j < l.length), szFuns (l.drop j) = 2 + szA l[j].body + szFuns (l.drop (j + 1))
 | g :: gs, 0, _ => by simp [szFuns]
 | g :: gs, j + 1, h => by
  have := szFuns_drop (l := gs) (j := j) (by simpa using h)
  simpa using this
theorem szFuns_at : ∀ {l : List FFun} {g : FFun}, g ∈ l → szA g.body ≤ szFuns l
 | g :: gs, x, h => by
  unfold szFuns
  rcases List.mem_cons.1 h with rfl | h
  · omega
  · have := szFuns_at h; omega
theorem longB_drop {n : Int} : ∀ {l : List Anf} {j : Nat} (h : j < l.length), longB (l.drop j) n = if n + sizeB l[j] 65536 > 65536 ∨ deepB l[j] 400 > 400 then true else longB (l.drop (j + 1)) (n + sizeB l[j] 65536)
 | b :: bs, 0, _ => by simp only [List.drop_zero, List.getElem_cons_zero, List.drop_succ_cons]; rfl
 | b :: bs, j + 1, h => by
  have := longB_drop (n := n) (l := bs) (j := j) (by simpa using h)
  simpa using this
theorem funsE_drop {nf : Nat} : ∀ {l : List FFun} {j : Nat} (h : j < l.length), funsE nf (l.drop j) = if varB l[j].env = false ∨ varB l[j].param = false then 2 else if l[j].env = l[j].param then 9 else if bodyE nf [l[j].param, l[j].env] l[j].body ≠ 0 then bodyE nf [l[j].param, l[j].env] l[j].body else funsE nf (l.drop (j + 1))
 | g :: gs, 0, _ => by simp only [List.drop_zero, List.getElem_cons_zero, List.drop_succ_cons]; rfl
 | g :: gs, j + 1, h => by
  have := funsE_drop (nf := nf) (l := gs) (j := j) (by simpa using h)
  simpa using this
theorem allB_at {p : FlatP} (hs : SmallF p) : ∀ a ∈ allB p, totA a ≤ 1000000000 := fun a ha => by
 have h1 := totA_le a
 have h2 := hs.size
 simp only [allB, List.mem_append, List.mem_map, List.mem_singleton] at ha
 rcases ha with ⟨g, hg, rfl⟩ | rfl
 · have := szFuns_at hg; omega
 · omega
theorem cright_any {p : FlatP} (hsm : SmallF p) {v : Array Value} (W : World) (hin : FlatIn W.heap.size W p v) :
 Calls Tryz.prog 20 #[.agg v] W fun e w' => e = .returned (.int .i64 (rightC p)) ∧ Below W.heap.size W w' := by
 have hin0 := hin
 obtain ⟨Af, cf, b, o, m0, m1, m2, rfl, hcf, h56, hmain, hA, hfun⟩ := hin
 have hmain0 := hmain
 obtain ⟨A1, c1, b1, o1, hv, -⟩ := hmain.at_
 simp only [Array.mk.injEq, List.cons.injEq, and_true] at hv
 obtain ⟨rfl, rfl, rfl⟩ := hv
 obtain ⟨W0, hW0⟩ : ∃ W0, W.alloc (.cells #[.slice Af p.funs.length cf, .slice A1 p.main.len c1, .bool p.main.last.v, .int .i64 p.main.last.n] 29) = W0 := ⟨_, rfl⟩
 have hb0 : Below W.heap.size W W0 := by rw [← hW0]; exact (Below.refl _ _).alloc (Nat.le_refl _) _
 have hs0 : W.heap.size < W0.heap.size := by rw [← hW0]; simp
 have hn0 : W0.heap[W.heap.size]? = some (.cells #[.slice Af p.funs.length cf, .slice A1 p.main.len c1, .bool p.main.last.v, .int .i64 p.main.last.n] 29 (0, 0)) := by rw [← hW0]; exact World.alloc_heap_new W _
 -- what is read, wherever nothing has turned but what is new
 have HC := Lib.hid (fun (V : World) (hV : V.heap[W.heap.size]? = W0.heap[W.heap.size]?) => (show V.cell? ⟨W.heap.size, 0, none⟩ = some (.slice Af p.funs.length cf) ∧ V.cell? ⟨W.heap.size, 1, none⟩ = some (.slice A1 p.main.len c1) ∧ V.cell? ⟨W.heap.size, 2, none⟩ = some (.bool p.main.last.v) ∧ V.cell? ⟨W.heap.size, 3, none⟩ = some (.int .i64 p.main.last.n) from by
  have h := hV.trans hn0
  exact ⟨by simp [World.cell?, h], by simp [World.cell?, h], by simp [World.cell?, h], by simp [World.cell?, h]⟩))
 have HF := Lib.hid (fun (j : Nat) (hj : j < p.funs.length) (V : World) (hV : Below W.heap.size W V) => (show ∃ A0 n0 c0 r0 r1, Af = some ⟨b, o, none⟩ ∧ V.cell? ⟨b, o + j * 5, none⟩ = some (.int .i64 p.funs[j].env) ∧ V.cell? ⟨b, o + j * 5 + 1, none⟩ = some (.int .i64 p.funs[j].param) ∧ V.cell? ⟨b, o + j * 5 + 2, none⟩ = some (.slice A0 n0 c0) ∧ V.cell? ⟨b, o + j * 5 + 3, none⟩ = some (.bool r0) ∧ V.cell? ⟨b, o + j * 5 + 4, none⟩ = some (.int .i64 r1) ∧ BodyIn W.heap.size W p.funs[j].body #[.slice A0 n0 c0, .bool r0, .int .i64 r1] from by
  obtain ⟨g0, g1, g2, e0, e1, e2, e3, e4, e5⟩ := hfun j hj
  have hlt := (hA (by omega)).2
  have e5' := e5
  obtain ⟨A0, c0, b0, o0, hv, -⟩ := e5.at_
  simp only [Array.mk.injEq, List.cons.injEq, and_true] at hv
  obtain ⟨rfl, rfl, rfl⟩ := hv
  exact ⟨A0, _, c0, _, _, (hA (by omega)).1, (hV.cell (p := ⟨_, _, none⟩) hlt).trans e0, (hV.cell (p := ⟨_, _, none⟩) hlt).trans e1, (hV.cell (p := ⟨_, _, none⟩) hlt).trans e2, (hV.cell (p := ⟨_, _, none⟩) hlt).trans e3, (hV.cell (p := ⟨_, _, none⟩) hlt).trans e4, e5'⟩))
 have HM := Lib.hid hmain0
 have HB0 := Lib.hid hb0
 have HS0 := Lib.hid hs0
 have HSM := Lib.hid hsm
 have HBO := Lib.hid (bodies_any W0 ((hin0.kept hb0).mono hb0.size))
 obtain ⟨out, hout⟩ : ∃ z, rightC p = z := ⟨_, rfl⟩
 rw [hout]
 have HO := Lib.hid (show out = (if 1024 < p.funs.length then 6 else if longB (allB p) 0 then 4 else if funsE p.funs.length p.funs ≠ 0 then funsE p.funs.length p.funs else bodyE p.funs.length [] p.main) from hout.symm)
 have HLA := Lib.hid (show (allB p).length = p.funs.length + 1 from by simp [allB])
 obtain ⟨k0, k1, k2, k3⟩ := HC.out W0 rfl
 clear hmain hmain0 hA hfun hb0 hs0 hn0 hin0 hsm hout
 have hcf' : (p.funs.length : Int) ≤ (cf : Int) := by omega
 by_cases h1024 : 1024 < p.funs.length
 · have HE := Lib.hid (show out = 6 from HO.out.trans (by rw [if_pos h1024]))
   have e1 : (1024 : Int) < (p.funs.length : Int) := by omega
   clear HBO
   go_enter Tryz.func20, Tryz.ntmps20
   go_wp2_with fail
   go_ret
   exact ⟨ret_int HE.out.symm, HB0.out⟩
 have HO2 := Lib.hid (show out = (if longB (allB p) 0 then 4 else if funsE p.funs.length p.funs ≠ 0 then funsE p.funs.length p.funs else bodyE p.funs.length [] p.main) from HO.out.trans (by rw [if_neg h1024]))
 have e1 : ¬ (1024 : Int) < (p.funs.length : Int) := by omega
 have hnf : p.funs.length ≤ 1024 := by omega
 clear HO h1024
 go_enter Tryz.func20, Tryz.ntmps20
 go_wp2_with fail
 refine HBO.out.mono ?_
 rintro en w1 ⟨Ab, cb', rfl, hcb, hrow, hb1⟩
 have HROW := Lib.hid hrow
 have HB1 := Lib.hid hb1
 clear hrow hb1 HBO
 go_wp2_with fail
 go_loopw [3, 17] (fun nv iv wr => ∃ (j : Nat) (m : Int), j ≤ p.funs.length + 1 ∧ iv = .int .i64 (j : Int) ∧ nv = .int .i64 m ∧ Hid (Below w1.heap.size w1 wr) ∧ 0 ≤ m ∧ m ≤ 65536 ∧ Hid (longB (allB p) 0 = longB ((allB p).drop j) m)) (fun _ iv _ => p.funs.length + 2 - (intOf iv).toNat)
 case atStart => exact ⟨0, 0, by omega, rfl, rfl, Lib.hid (Below.refl _ _), by omega, by omega, Lib.hid rfl⟩
 case round =>
  obtain ⟨wo, rfl⟩ : ∃ wo, wo = wr := ⟨_, rfl⟩
  obtain ⟨j, m, hj, rfl, rfl, HW, hm1, hm2, HL⟩ := hrel
  have HWW := Lib.hid (show Below W0.heap.size W0 wo from HB1.out.trans (HW.out.mono HB1.out.size))
  have HBW := Lib.hid (show Below W.heap.size W wo from HB0.out.trans (HWW.out.mono HB0.out.size))
  obtain ⟨q0, q1, q2, q3⟩ := HC.out wo (HWW.out.block W.heap.size HS0.out)
  by_cases hlt : j < p.funs.length + 1
  · have hja : j < (allB p).length := by rw [HLA.out]; exact hlt
    obtain ⟨bb, oo, A0, n0, c0, r0, r1, rfl, hbb, s0, s1, s2, hbd⟩ := (HROW.out.below HB1.out.size HW.out) j hja
    have f1 : (0 : Int) ≤ (j : Int) := by omega
    have f2 : (j : Int) < (p.funs.length : Int) + 1 := by omega
    have f3 : (p.funs.length : Int) + 1 ≤ (cb' : Int) := by omega
    have f4 : IntKind.i64.wrap ((j : Int) + 1) = (j : Int) + 1 := by rw [IntKind.wrap_i64]; omega
    obtain ⟨W4, hW4⟩ : ∃ W4, wo.alloc (.cells #[.slice A0 n0 c0, .bool r0, .int .i64 r1] 27) = W4 := ⟨_, rfl⟩
    have hb4 : Below wo.heap.size wo W4 := by rw [← hW4]; exact (Below.refl _ _).alloc (Nat.le_refl _) _
    have hn4 : W4.heap[wo.heap.size]? = some (.cells #[.slice A0 n0 c0, .bool r0, .int .i64 r1] 27 (0, 0)) := by rw [← hW4]; exact World.alloc_heap_new wo _
    have HP := Lib.hid (fun (V : World) (hV : Below W4.heap.size W4 V) => (show V.cell? ⟨wo.heap.size, 0, none⟩ = some (.slice A0 n0 c0) ∧ V.cell? ⟨wo.heap.size, 1, none⟩ = some (.bool r0) ∧ V.cell? ⟨wo.heap.size, 2, none⟩ = some (.int .i64 r1) from by
     have h := (hV.block wo.heap.size (by rw [← hW4]; simp)).trans hn4
     exact ⟨by simp [World.cell?, h], by simp [World.cell?, h], by simp [World.cell?, h]⟩))
    obtain ⟨p0, p1, p2⟩ := HP.out W4 (Below.refl _ _)
    have hbdV := fun (V : World) (hV : Below wo.heap.size wo V) => (hbd.kept (hV.mono HWW.out.size)).mono (Nat.le_trans HWW.out.size hV.size)
    have HSZ := Lib.hid (size_any (allB p)[j] W4 _ (hbdV W4 hb4) (allB_at HSM.out _ (List.getElem_mem hja)) 65536 (by omega) (by omega))
    have HDP := Lib.hid (fun (V : World) (hV : Below wo.heap.size wo V) => deep_any (allB p)[j] V _ (hbdV V hV) 400 (by omega))
    have HB4 := Lib.hid hb4
    have hsb := sizeB_le 65536 (allB p)[j]
    have htb := allB_at HSM.out _ (List.getElem_mem hja)
    have HLS := Lib.hid (HL.out.trans (longB_drop hja))
    have w3 : IntKind.i64.wrap (m + sizeB (allB p)[j] 65536) = m + sizeB (allB p)[j] 65536 := by rw [IntKind.wrap_i64]; omega
    clear hbd hb4 hn4 hbdV htb
    generalize sizeB (allB p)[j] 65536 = sz at *
    generalize deepB (allB p)[j] 400 = dp at *
    go_wp2_with fail
    refine HSZ.out.mono ?_
    rintro en w5 ⟨rfl, hb5⟩
    obtain ⟨t0, t1, t2⟩ := HP.out w5 hb5
    have HB5 := Lib.hid (HB4.out.trans (hb5.mono HB4.out.size))
    clear hb5 HSZ
    by_cases hbig : m + sz > 65536
    · have hbig' : (65536 : Int) < m + sz := hbig
      have HE := Lib.hid (show out = 4 from HO2.out.trans (by rw [show longB (allB p) 0 = true from HLS.out.trans (if_pos (Or.inl hbig))]; rfl))
      clear HDP
      go_wp2_with fail
      go_ret
      exact ⟨ret_int HE.out.symm, HBW.out.trans (HB5.out.mono HBW.out.size)⟩
    · have hbig' : decide ((65536 : Int) < m + sz) = false := by simpa using hbig
      have hbig2 : ¬ (65536 : Int) < m + sz := hbig
      have HD5 := Lib.hid (HDP.out w5 HB5.out)
      clear HDP
      by_cases hdp : dp > 400
      · have hdp' : (400 : Int) < dp := hdp
        have HE := Lib.hid (show out = 4 from HO2.out.trans (by rw [show longB (allB p) 0 = true from HLS.out.trans (if_pos (Or.inr hdp))]; rfl))
        go_wp2_with (go_at_call 33; refine HD5.out.mono ?_; rintro en w6 ⟨rfl, hb6⟩)
        go_ret
        exact ⟨ret_int HE.out.symm, (HBW.out.trans (HB5.out.mono HBW.out.size)).trans (hb6.mono (Nat.le_trans HBW.out.size HB5.out.size))⟩
      · have hdp' : ¬ (400 : Int) < dp := hdp
        have HN := Lib.hid (show longB (allB p) 0 = longB ((allB p).drop (j + 1)) (m + sz) from HLS.out.trans (by rw [if_neg (by omega)]))
        have hpos : 0 ≤ m + sz ∧ m + sz ≤ 65536 := by omega
        obtain ⟨hpos1, hpos2⟩ := hpos
        go_wp2_with (go_at_call 33; refine HD5.out.mono ?_; rintro en w6 ⟨rfl, hb6⟩)
        have HW6 := Lib.hid (HW.out.trans ((HB5.out.trans (hb6.mono HB5.out.size)).mono HW.out.size))
        clear hb6
        go_roundw
        case rel => exact ⟨j + 1, m + sz, by omega, by go_num, by first | rfl | go_num, HW6, hpos1, hpos2, HN⟩
        case measure => simp [intOf]; omega
  · have f2 : ¬ (j : Int) < (p.funs.length : Int) + 1 := by omega
    have hlong : longB (allB p) 0 = false := HL.out.trans (by rw [List.drop_of_length_le (by rw [HLA.out]; omega)]; rfl)
    have HO3 := Lib.hid (show out = (if funsE p.funs.length p.funs ≠ 0 then funsE p.funs.length p.funs else bodyE p.funs.length [] p.main) from HO2.out.trans (by rw [hlong]; rfl))
    have hmm := @run_makeMap Tryz.prog
    have hmb := HWW.out.size
    have hWwo := HBW.out.size
    obtain ⟨V0, hV0⟩ : ∃ V0, (wo.alloc (.map #[] 0)).alloc (.cells #[.int .i64 (p.funs.length : Int), .map (some wo.heap.size)] 85) = V0 := ⟨_, rfl⟩
    have hbV0 : Below wo.heap.size wo V0 := by rw [← hV0]; exact below_two _ _ _
    have HK0 := Lib.hid (show KnownIn (wo.heap.size + 1) wo.heap.size p.funs.length 0 [] V0 from by
     refine ⟨by rw [← hV0]; exact two_new2 _ _ _, by omega, .map [], ?_, fun v hv => rfl⟩
     rw [← hV0]
     exact (World.ownsMap_made wo Tryz.prog 3 (plainElem Tryz.prog 3)).alloc _)
    have HV0 := Lib.hid hbV0
    have HBV := Lib.hid (fun (V : World) (hV : Turned wo.heap.size V0 V) => (show Below W.heap.size W V from (HBW.out.trans (hbV0.mono hWwo)).trans (hV.below hWwo (Nat.le_trans hWwo hbV0.size))))
    have HCV := Lib.hid (fun (V : World) (hV : Turned wo.heap.size V0 V) => HC.out V (((hV.block W.heap.size (by have := hbV0.size; have := HS0.out; omega) (by have := HS0.out; simp; omega)).trans (hbV0.block W.heap.size (by have := HS0.out; omega))).trans (HWW.out.block W.heap.size HS0.out)))
    obtain ⟨y0, y1, y2, y3⟩ := HCV.out V0 (Turned.refl _ _)
    clear hbV0 hlong HL HO2
    go_wp2_with fail
    go_loopw [42] (fun iv wr => ∃ (j nn : Nat), j ≤ p.funs.length ∧ iv = .int .i64 (j : Int) ∧ Hid (KnownIn (wo.heap.size + 1) wo.heap.size p.funs.length nn [] wr) ∧ Hid (Turned wo.heap.size V0 wr) ∧ Hid (out = (if funsE p.funs.length (p.funs.drop j) ≠ 0 then funsE p.funs.length (p.funs.drop j) else bodyE p.funs.length [] p.main)) ∧ Hid (nn + 2 * szFuns (p.funs.drop j) ≤ 2 * szFuns p.funs)) (fun iv _ => p.funs.length + 1 - (intOf iv).toNat)
    case atStart => exact ⟨0, 0, by omega, rfl, HK0, Lib.hid (Turned.refl _ _), Lib.hid (by rw [List.drop_zero]; exact HO3.out), Lib.hid (by simp)⟩
    case round =>
     obtain ⟨wx, rfl⟩ : ∃ wx, wx = wr := ⟨_, rfl⟩
     obtain ⟨i, nn, hi, rfl, HK, HT, HOI, HNN⟩ := hrel
     obtain ⟨z0, z1, z2, z3⟩ := HCV.out wx HT.out
     by_cases hil : i < p.funs.length
     · obtain ⟨A0, n0, c0, r0, r1, rfl, s0, s1, s2, s3, s4, hbd⟩ := HF.out i hil wx (HBV.out wx HT.out)
       have f1 : (0 : Int) ≤ (i : Int) := by omega
       have f2' : (i : Int) < (p.funs.length : Int) := by omega
       have f4 : IntKind.i64.wrap ((i : Int) + 1) = (i : Int) + 1 := by rw [IntKind.wrap_i64]; omega
       obtain ⟨W4, hW4⟩ : ∃ W4, wx.alloc (.cells #[.int .i64 p.funs[i].env, .int .i64 p.funs[i].param, .slice A0 n0 c0, .bool r0, .int .i64 r1] 54) = W4 := ⟨_, rfl⟩
       have hb4 : Below wx.heap.size wx W4 := by rw [← hW4]; exact (Below.refl _ _).alloc (Nat.le_refl _) _
       have hn4 : W4.heap[wx.heap.size]? = some (.cells #[.int .i64 p.funs[i].env, .int .i64 p.funs[i].param, .slice A0 n0 c0, .bool r0, .int .i64 r1] 54 (0, 0)) := by rw [← hW4]; exact World.alloc_heap_new wx _
       have hmx : wo.heap.size < wx.heap.size := HK.out.lt.2
       have HP := Lib.hid (fun (V : World) (hV : Turned wo.heap.size W4 V) => (show V.cell? ⟨wx.heap.size, 0, none⟩ = some (.int .i64 p.funs[i].env) ∧ V.cell? ⟨wx.heap.size, 1, none⟩ = some (.int .i64 p.funs[i].param) ∧ V.cell? ⟨wx.heap.size, 2, none⟩ = some (.slice A0 n0 c0) ∧ V.cell? ⟨wx.heap.size, 3, none⟩ = some (.bool r0) ∧ V.cell? ⟨wx.heap.size, 4, none⟩ = some (.int .i64 r1) from by
        have h := (hV.block wx.heap.size (by rw [← hW4]; simp) (by simp; omega)).trans hn4
        exact ⟨by simp [World.cell?, h], by simp [World.cell?, h], by simp [World.cell?, h], by simp [World.cell?, h], by simp [World.cell?, h]⟩))
       obtain ⟨p0, p1, p2, p3, p4⟩ := HP.out W4 (Turned.refl _ _)
       have HT4 := Lib.hid (HT.out.trans (Turned.of_below hb4))
       have HK4 := Lib.hid (HK.out.below hb4)
       obtain ⟨g0, g1, g2, g3⟩ := HCV.out W4 HT4.out
       have HBD := Lib.hid hbd
       have HFE := Lib.hid (funsE_drop (nf := p.funs.length) hil)
       have HSD := Lib.hid (szFuns_drop hil)
       have HRG := Lib.hid (HSM.out.rng _ (List.getElem_mem hil))
       have HMS := Lib.hid (szFuns_at (List.getElem_mem hil))
       clear hbd hb4 hn4
       generalize p.funs[i].env = ee at *
       generalize p.funs[i].param = pp at *
       generalize p.funs[i].body = bo at *
       have hvk : varB ee = false ∨ (varB ee = true ∧ varB pp = false) ∨ (varB ee = true ∧ varB pp = true) := by
        cases varB ee <;> cases varB pp <;> simp
       rcases hvk with v1 | ⟨v1, v2⟩ | ⟨v1, v2⟩
       · have hfe : funsE p.funs.length (p.funs.drop i) = 2 := HFE.out.trans (if_pos (Or.inl v1))
         have HE := Lib.hid (show out = 2 from HOI.out.trans (by rw [hfe]; rfl))
         clear hfe
         go_wp2_with (go_at_call 34; refine (variable_any _ _).mono ?_; rintro en w' ⟨rfl, rfl⟩)
         go_ret
         exact ⟨ret_int HE.out.symm, HBV.out _ HT4.out⟩
       · have hfe : funsE p.funs.length (p.funs.drop i) = 2 := HFE.out.trans (if_pos (Or.inr v2))
         have HE := Lib.hid (show out = 2 from HOI.out.trans (by rw [hfe]; rfl))
         clear hfe
         go_wp2_with (go_at_call 34; refine (variable_any _ _).mono ?_; rintro en w' ⟨rfl, rfl⟩)
         go_ret
         exact ⟨ret_int HE.out.symm, HBV.out _ HT4.out⟩
       · have HF1 := Lib.hid (HFE.out.trans (if_neg (by rw [v1, v2]; simp)))
         have HV1 := Lib.hid (in64_var v1)
         have HV2 := Lib.hid (in64_var v2)
         by_cases heq : ee = pp
         · have heq' : (ee == pp) = true := by simpa using heq
           have hfe : funsE p.funs.length (p.funs.drop i) = 9 := HF1.out.trans (if_pos heq)
           have HE := Lib.hid (show out = 9 from HOI.out.trans (by rw [hfe]; rfl))
           clear hfe heq
           go_wp2_with (go_at_call 34; refine (variable_any _ _).mono ?_; rintro en w' ⟨rfl, rfl⟩)
           go_ret
           exact ⟨ret_int HE.out.symm, HBV.out _ HT4.out⟩
         · have heq' : (ee == pp) = false := by simpa using heq
           have HF2 := Lib.hid (show funsE p.funs.length (p.funs.drop i) = if bodyE p.funs.length [pp, ee] bo ≠ 0 then bodyE p.funs.length [pp, ee] bo else funsE p.funs.length (p.funs.drop (i + 1)) from HF1.out.trans (if_neg heq))
           obtain ⟨W5, hW5⟩ : ∃ W5, W4.alloc (.cells #[.int .i64 ee, .int .i64 pp] 3) = W5 := ⟨_, rfl⟩
           have hb5 : Below W4.heap.size W4 W5 := by rw [← hW5]; exact (Below.refl _ _).alloc (Nat.le_refl _) _
           have hn5 : W5.heap[W4.heap.size]? = some (.cells #[.int .i64 ee, .int .i64 pp] 3 (0, 0)) := by rw [← hW5]; exact World.alloc_heap_new W4 _
           have HK5 := Lib.hid (HK4.out.below hb5)
           have HTW5 := Lib.hid (show Turned wo.heap.size W4 W5 from Turned.of_below hb5)
           have hcc : ∀ j, j < [ee, pp].length → W5.cell? ⟨W4.heap.size, 0 + j, none⟩ = some (.int .i64 (nth [ee, pp] j)) := fun j hj => by
            have : j = 0 ∨ j = 1 := by simp at hj; omega
            rcases this with rfl | rfl <;> simp [World.cell?, hn5, nth]
           have HKN := Lib.hid (know_any (l := [ee, pp]) (A := some ⟨W4.heap.size, 0, none⟩) (c := 2) HK5.out ⟨by simp, .inr ⟨W4.heap.size, 0, rfl, by rw [← hW5]; simp, hcc⟩⟩ (by simp) (by intro y hy; simp at hy; rcases hy with rfl | rfl; exact HV1.out; exact HV2.out) (by have := HNN.out; have := HSM.out.size; simp; omega) (by simp) (fun a ha => by cases ha; exact HK5.out.cellNe (hcc 0 (by simp))))
           obtain ⟨l0, l1, l2, l3, l4⟩ := HP.out W5 HTW5.out
           have HF3 := Lib.hid (HFE.out)
           clear hb5 hn5 hcc heq HFE HF1 HF3
           go_wp2_with (go_at_call 34; refine (variable_any _ _).mono ?_; rintro en w' ⟨rfl, rfl⟩)
           refine HKN.out.mono ?_
           rintro en w6 ⟨rfl, hk6, hT6⟩
           have HK6 := Lib.hid (show KnownIn (wo.heap.size + 1) wo.heap.size p.funs.length (nn + 2) [pp, ee] w6 from hk6.count (fun v => by simp [List.count_cons]; omega))
           have HT46 := Lib.hid (HTW5.out.trans hT6)
           have HT6 := Lib.hid (HT4.out.trans HT46.out)
           obtain ⟨m0, m1, m2, m3, m4⟩ := HP.out w6 HT46.out
           have HBC := Lib.hid (cbody_any (by omega : p.funs.length ≤ 1000000) hWwo bo (nn + 2) [pp, ee] w6 _ (HBD.out.kept (HBV.out w6 HT6.out)) (HBV.out w6 HT6.out).size HRG.out HK6.out (by have := HNN.out; have := HSD.out; have := HSM.out.size; omega) (by have := HMS.out; have := HSM.out.size; simp; omega))
           clear hk6 hT6 HKN
           go_wp2_with fail
           refine HBC.out.mono ?_
           rintro en w7 ⟨rfl, hk7, hT7⟩
           have HK7 := Lib.hid hk7
           have HT47 := Lib.hid (HT46.out.trans hT7)
           have HT7 := Lib.hid (HT4.out.trans HT47.out)
           obtain ⟨m5, m6, m7, m8, m9⟩ := HP.out w7 HT47.out
           clear hk7 hT7 HBC
           cases hz : (bodyE p.funs.length [pp, ee] bo == 0)
           · have hne : bodyE p.funs.length [pp, ee] bo ≠ 0 := by simpa using hz
             have hfe := HF2.out.trans (if_pos hne)
             have HE := Lib.hid (show out = bodyE p.funs.length [pp, ee] bo from HOI.out.trans (by rw [hfe, if_pos hne]))
             clear hne hfe HF2
             generalize bodyE p.funs.length [pp, ee] bo = ev at *
             go_wp2_with fail
             go_ret
             exact ⟨ret_int HE.out.symm, HBV.out _ HT7.out⟩
           · have hze : bodyE p.funs.length [pp, ee] bo = 0 := by simpa using hz
             rw [hze]
             have hfe := HF2.out.trans (if_neg (by simp [hze]))
             have HO8 := Lib.hid (show out = (if funsE p.funs.length (p.funs.drop (i + 1)) ≠ 0 then funsE p.funs.length (p.funs.drop (i + 1)) else bodyE p.funs.length [] p.main) from by rw [← hfe]; exact HOI.out)
             clear hz hze hfe HF2
             obtain ⟨W8, hW8⟩ : ∃ W8, w7.alloc (.cells #[.int .i64 ee, .int .i64 pp] 3) = W8 := ⟨_, rfl⟩
             have hb8 : Below w7.heap.size w7 W8 := by rw [← hW8]; exact (Below.refl _ _).alloc (Nat.le_refl _) _
             have hn8 : W8.heap[w7.heap.size]? = some (.cells #[.int .i64 ee, .int .i64 pp] 3 (0, 0)) := by rw [← hW8]; exact World.alloc_heap_new w7 _
             have HK8 := Lib.hid (show KnownIn (wo.heap.size + 1) wo.heap.size p.funs.length (nn + 2 + 2 * szA bo) ([ee, pp] ++ []) W8 from (HK7.out.below hb8).count (fun v => by simp [List.count_cons]; omega))
             have hcc : ∀ j, j < [ee, pp].length → W8.cell? ⟨w7.heap.size, 0 + j, none⟩ = some (.int .i64 (nth [ee, pp] j)) := fun j hj => by
              have : j = 0 ∨ j = 1 := by simp at hj; omega
              rcases this with rfl | rfl <;> simp [World.cell?, hn8, nth]
             have HFG := Lib.hid (forget_any (kn := []) (l := [ee, pp]) (A := some ⟨w7.heap.size, 0, none⟩) (c := 2) HK8.out ⟨by simp, .inr ⟨w7.heap.size, 0, rfl, by rw [← hW8]; simp, hcc⟩⟩ (by simp) (by intro y hy; simp at hy; rcases hy with rfl | rfl; exact HV1.out; exact HV2.out) (by have := HNN.out; have := HSD.out; have := HSM.out.size; simp; omega) (by simp) (fun a ha => by cases ha; exact HK8.out.cellNe (hcc 0 (by simp))))
             have HT8 := Lib.hid (show Turned wo.heap.size V0 W8 from HT7.out.trans (Turned.of_below hb8))
             clear hb8 hn8 hcc
             go_wp2_with fail
             refine HFG.out.mono ?_
             rintro en w9 ⟨rfl, hk9, hT9⟩
             have HK9 := Lib.hid (show KnownIn (wo.heap.size + 1) wo.heap.size p.funs.length (nn + 2 + 2 * szA bo + 2) [] w9 from hk9)
             have HT9 := Lib.hid (HT8.out.trans hT9)
             have HN9 := Lib.hid (show nn + 2 + 2 * szA bo + 2 + 2 * szFuns (p.funs.drop (i + 1)) ≤ 2 * szFuns p.funs from by have := HNN.out; have := HSD.out; omega)
             clear hk9 hT9 HFG
             go_wp2_with fail
             go_roundw
             case rel => exact ⟨i + 1, _, by omega, by go_num, HK9, HT9, HO8, HN9⟩
             case measure => simp [intOf]; omega
     · have f2' : ¬ (i : Int) < (p.funs.length : Int) := by omega
       have hdr : p.funs.drop i = [] := List.drop_eq_nil_iff.2 (by omega)
       have HE := Lib.hid (show out = bodyE p.funs.length [] p.main from HOI.out.trans (by rw [hdr]; rfl))
       have HBC := Lib.hid (cbody_any (by omega : p.funs.length ≤ 1000000) hWwo p.main nn [] wx _ (HM.out.kept (HBV.out wx HT.out)) (HBV.out wx HT.out).size HSM.out.rngm HK.out (by have := HNN.out; have := HSM.out.size; omega) (by have := HSM.out.size; simp; omega))
       clear hdr
       generalize p.main.len = ml at *
       generalize p.main.last.v = mv at *
       generalize p.main.last.n = mn at *
       go_wp2_with fail
       refine HBC.out.mono ?_
       rintro en w7 ⟨rfl, hk7, hT7⟩
       have HT7 := Lib.hid (HT.out.trans hT7)
       clear hk7 hT7
       go_wp2_with fail
       go_ret
       exact ⟨ret_int HE.out.symm, HBV.out _ HT7.out⟩
end Go.Proofs.YtnobggabjpcbfaaGreat
