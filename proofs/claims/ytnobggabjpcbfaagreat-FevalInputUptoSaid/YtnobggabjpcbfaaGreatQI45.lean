/-
 1 texts of this seat in one: S11.
-/
import Derived.Test.YtnobggabjpcbfaaGreatQI44
set_option maxRecDepth 100000
set_option maxHeartbeats 16000000
set_option linter.unusedVariables false
set_option linter.unusedSimpArgs false
namespace Go.Proofs.YtnobggabjpcbfaaGreat
open Go.RowKit Go.Maps
def totF : List FFun → Nat
 | [] => 0
 | g :: gs => totA g.body + totF gs
def dpF : List FFun → Nat → Nat
 | [], m => m
 | g :: gs, m => dpF gs (max m (dpN g.body + 1))
theorem totF_le : ∀ l : List FFun, totF l ≤ szFuns l
 | [] => Nat.le_refl _
 | g :: gs => by
  have h1 := totA_le g.body
  have h2 := totF_le gs
  simp only [totF, szFuns]
  omega
theorem totF_drop : ∀ {l : List FFun} {j : Nat} (h : j < l.length), totF (l.drop j) = totA l[j].body + totF (l.drop (j + 1))
 | g :: gs, 0, _ => by simp [totF]
 | g :: gs, j + 1, h => by
  have := totF_drop (l := gs) (j := j) (by simpa using h)
  simpa using this
theorem dpF_drop {m : Nat} : ∀ {l : List FFun} {j : Nat} (h : j < l.length), dpF (l.drop j) m = dpF (l.drop (j + 1)) (max m (dpN l[j].body + 1))
 | g :: gs, 0, _ => by simp [dpF]
 | g :: gs, j + 1, h => by
  have := dpF_drop (m := m) (l := gs) (j := j) (by simpa using h)
  simpa using this
def r30 (p : FlatP) : Int :=
 if 1024 < p.funs.length then 6
 else if 65536 < totA p.main + totF p.funs ∨ 400 < dpF p.funs (dpN p.main + 1) then 4
 else if funsE p.funs.length p.funs ≠ 0 then funsE p.funs.length p.funs
 else bodyE p.funs.length [] p.main
theorem allT_at {p : FlatP} (hs : SmallF p) : totA p.main + totF p.funs ≤ 1000000000 ∧ totA p.main ≤ 1000000000 ∧ ∀ j (h : j < p.funs.length), totA p.funs[j].body ≤ 1000000000 := by
 have h2 := hs.size
 have h1 := totA_le p.main
 have h3 := totF_le p.funs
 refine ⟨by omega, by omega, fun j h => ?_⟩
 have h4 := szFuns_at (List.getElem_mem h)
 have h5 := totA_le p.funs[j].body
 omega
theorem rSize_any {B : Nat} {p : FlatP} (hsm : SmallF p) {v : Array Value} (W : World) (hin : FlatIn B W p v) (hBW : B ≤ W.heap.size) :
 Calls Tryz.prog 25 #[.agg v] W fun e w' => e = .returned (.int .i64 ((totA p.main + totF p.funs : Nat) : Int)) ∧ Below W.heap.size W w' := by
 obtain ⟨Af, cf, b, o, m0, m1, m2, rfl, hcf, h56, hmain, hA, hfun⟩ := hin
 have hmain0 := hmain
 obtain ⟨A1, c1, b1, o1, hv, -⟩ := hmain.at_
 simp only [Array.mk.injEq, List.cons.injEq, and_true] at hv
 obtain ⟨rfl, rfl, rfl⟩ := hv
 obtain ⟨W0, hW0⟩ : ∃ W0, W.alloc (.cells #[.slice Af p.funs.length cf, .slice A1 p.main.len c1, .bool p.main.last.v, .int .i64 p.main.last.n] 29) = W0 := ⟨_, rfl⟩
 have hb0 : Below W.heap.size W W0 := by rw [← hW0]; exact (Below.refl _ _).alloc (Nat.le_refl _) _
 have hs0 : W.heap.size < W0.heap.size := by rw [← hW0]; simp
 have hn0 : W0.heap[W.heap.size]? = some (.cells #[.slice Af p.funs.length cf, .slice A1 p.main.len c1, .bool p.main.last.v, .int .i64 p.main.last.n] 29 (0, 0)) := by rw [← hW0]; exact World.alloc_heap_new W _
 have HC := Lib.hid (fun (V : World) (hV : Below W0.heap.size W0 V) => (show V.cell? ⟨W.heap.size, 0, none⟩ = some (.slice Af p.funs.length cf) ∧ V.cell? ⟨W.heap.size, 1, none⟩ = some (.slice A1 p.main.len c1) ∧ V.cell? ⟨W.heap.size, 2, none⟩ = some (.bool p.main.last.v) ∧ V.cell? ⟨W.heap.size, 3, none⟩ = some (.int .i64 p.main.last.n) from by
  have h := (hV.block _ hs0).trans hn0
  exact ⟨by simp [World.cell?, h], by simp [World.cell?, h], by simp [World.cell?, h], by simp [World.cell?, h]⟩))
 have HBV := Lib.hid (fun (V : World) (hV : Below W0.heap.size W0 V) => (show Below B W V ∧ Below W.heap.size W V ∧ B ≤ V.heap.size from
  ⟨(hb0.mono hBW).trans (hV.mono (by omega)), hb0.trans (hV.mono hb0.size), by have := hV.size; omega⟩))
 have HF := Lib.hid (fun (j : Nat) (hj : j < p.funs.length) (V : World) (hV : Below W0.heap.size W0 V) => (show ∃ A0 n0 c0 r0 r1, Af = some ⟨b, o, none⟩ ∧ V.cell? ⟨b, o + j * 5, none⟩ = some (.int .i64 p.funs[j].env) ∧ V.cell? ⟨b, o + j * 5 + 1, none⟩ = some (.int .i64 p.funs[j].param) ∧ V.cell? ⟨b, o + j * 5 + 2, none⟩ = some (.slice A0 n0 c0) ∧ V.cell? ⟨b, o + j * 5 + 3, none⟩ = some (.bool r0) ∧ V.cell? ⟨b, o + j * 5 + 4, none⟩ = some (.int .i64 r1) ∧ Hid (∀ V2, Below W0.heap.size W0 V2 → BodyIn B V2 p.funs[j].body #[.slice A0 n0 c0, .bool r0, .int .i64 r1]) from by
  obtain ⟨g0, g1, g2, e0, e1, e2, e3, e4, e5⟩ := hfun j hj
  have hlt := (hA (by omega)).2
  have e5' := e5
  have hV' := (HBV.out V hV).1
  obtain ⟨A0, c0, b0, o0, hv, -⟩ := e5.at_
  simp only [Array.mk.injEq, List.cons.injEq, and_true] at hv
  obtain ⟨rfl, rfl, rfl⟩ := hv
  exact ⟨A0, _, c0, _, _, (hA (by omega)).1, (hV'.cell (p := ⟨_, _, none⟩) hlt).trans e0, (hV'.cell (p := ⟨_, _, none⟩) hlt).trans e1, (hV'.cell (p := ⟨_, _, none⟩) hlt).trans e2, (hV'.cell (p := ⟨_, _, none⟩) hlt).trans e3, (hV'.cell (p := ⟨_, _, none⟩) hlt).trans e4, Lib.hid (fun V2 hV2 => e5'.kept (HBV.out V2 hV2).1)⟩))
 have HM := Lib.hid (fun (V : World) (hV : Below W0.heap.size W0 V) => hmain0.kept (HBV.out V hV).1)
 have HNF := Lib.hid hcf
 have HA := Lib.hid (allT_at hsm)
 obtain ⟨FIN, hFIN⟩ : ∃ z : Nat, totA p.main + totF p.funs = z := ⟨_, rfl⟩
 have HF0 := Lib.hid hFIN
 rw [hFIN]
 obtain ⟨k0, k1, k2, k3⟩ := HC.out W0 (Below.refl _ _)
 have HMA := Lib.hid (rsize_any p.main W0 _ (HM.out W0 (Below.refl _ _)) (HBV.out W0 (Below.refl _ _)).2.2 HA.out.2.1)
 clear hmain hmain0 hA hfun hb0 hs0 hn0 hsm hFIN
 have hmt : totA p.main ≤ 1000000000 := HA.out.2.1
 generalize p.main.len = ml at *
 generalize p.main.last.v = mv at *
 generalize p.main.last.n = mn at *
 go_enter Tryz.func25, Tryz.ntmps25
 go_wp2_with fail
 refine HMA.out.mono ?_
 rintro en w1 ⟨rfl, hb1⟩
 have HB1 := Lib.hid hb1
 have HT0 := Lib.hid (show totA p.main + totF (p.funs.drop 0) = FIN from by rw [List.drop_zero]; exact HF0.out)
 obtain ⟨e0, e1', e2, e3⟩ := HC.out w1 hb1
 clear hb1 HMA
 generalize totA p.main = tm at *
 go_wp2_with fail
 go_loopw [3, 4] (fun n i wr => ∃ (j m : Nat), j ≤ p.funs.length ∧ i = .int .i64 (j : Int) ∧ n = .int .i64 (m : Int) ∧ Hid (Below W0.heap.size W0 wr) ∧ m ≤ 1000000000 ∧ Hid (m + totF (p.funs.drop j) = FIN)) (fun _ i _ => p.funs.length + 1 - (intOf i).toNat)
 case atStart => exact ⟨0, tm, by omega, rfl, rfl, HB1, hmt, HT0⟩
 case round =>
  obtain ⟨wo, rfl⟩ : ∃ wo, wo = wr := ⟨_, rfl⟩
  obtain ⟨j, m, hj, rfl, rfl, HW, hm1, HL⟩ := hrel
  obtain ⟨q0, q1, q2, q3⟩ := HC.out wo HW.out
  by_cases hlt : j < p.funs.length
  · obtain ⟨A0, n0, c0, r0, r1, rfl, s0, s1, s2, s3, s4, HBD⟩ := HF.out j hlt wo HW.out
    have f1 : (0 : Int) ≤ (j : Int) := by omega
    have f2 : (j : Int) < (p.funs.length : Int) := by omega
    have f3 : (p.funs.length : Int) ≤ (cf : Int) := by omega
    have f4 : IntKind.i64.wrap ((j : Int) + 1) = (j : Int) + 1 := by rw [IntKind.wrap_i64]; have := h56; omega
    have HS := Lib.hid (rsize_any p.funs[j].body wo _ (HBD.out wo HW.out) (HBV.out wo HW.out).2.2 (HA.out.2.2 j hlt))
    have HN := Lib.hid (show m + totA p.funs[j].body + totF (p.funs.drop (j + 1)) = FIN from by have h1 := HL.out; rw [totF_drop hlt] at h1; omega)
    clear HL
    generalize totA p.funs[j].body = nk at *
    have hm6 : m + nk ≤ 1000000000 := by have h1 := HN.out; have h2 := HA.out.1; have h3 := HF0.out; omega
    have z2 : IntKind.i64.wrap ((m : Int) + (nk : Int)) = (m : Int) + (nk : Int) := by rw [IntKind.wrap_i64]; omega
    go_wp2_with fail
    refine HS.out.mono ?_
    rintro en w5 ⟨rfl, hb5⟩
    have HB5 := Lib.hid (HW.out.trans (hb5.mono HW.out.size))
    clear hb5 HS
    go_wp2_with fail
    go_roundw
    case rel => exact ⟨j + 1, m + nk, by omega, by go_num, by first | rfl | (congr 1; omega), HB5, hm6, HN⟩
    case measure => simp [intOf]; omega
  · have f2' : ¬ (j : Int) < (p.funs.length : Int) := by omega
    have hme : m = FIN := by
     have h := HL.out
     rw [List.drop_of_length_le (by omega)] at h
     simpa [totF] using h
    subst hme
    go_wp2_with fail
    go_ret
    exact ⟨rfl, (HBV.out _ HW.out).2.1⟩
theorem rright_any {B : Nat} {p : FlatP} (hsm : SmallF p) {v : Array Value} (W : World) (hin : FlatIn B W p v) (hBW : B ≤ W.heap.size) :
 Calls Tryz.prog 12 #[.agg v] W (IntBelow (r30 p) W) := by
 have hin0 := hin
 obtain ⟨Af, cf, b, o, m0, m1, m2, rfl, hcf, h56, hmain, hA, hfun⟩ := hin
 have hmain0 := hmain
 obtain ⟨A1, c1, b1, o1, hv, -⟩ := hmain.at_
 simp only [Array.mk.injEq, List.cons.injEq, and_true] at hv
 obtain ⟨rfl, rfl, rfl⟩ := hv
 obtain ⟨W0, hW0⟩ : ∃ W0, W.alloc (.cells #[.slice Af p.funs.length cf, .slice A1 p.main.len c1, .bool p.main.last.v, .int .i64 p.main.last.n] 29) = W0 := ⟨_, rfl⟩
 have hb0 : Below W.heap.size W W0 := by rw [← hW0]; exact (Below.refl _ _).alloc (Nat.le_refl _) _
 have hs0 : W.heap.size < W0.heap.size := by rw [← hW0]; simp
 have hn0 : W0.heap[W.heap.size]? = some (.cells #[.slice Af p.funs.length cf, .slice A1 p.main.len c1, .bool p.main.last.v, .int .i64 p.main.last.n] 29 (0, 0)) := by rw [← hW0]; exact World.alloc_heap_new W _
 have HC := Lib.hid (fun (V : World) (hV : Below W0.heap.size W0 V) => (show V.cell? ⟨W.heap.size, 0, none⟩ = some (.slice Af p.funs.length cf) ∧ V.cell? ⟨W.heap.size, 1, none⟩ = some (.slice A1 p.main.len c1) ∧ V.cell? ⟨W.heap.size, 2, none⟩ = some (.bool p.main.last.v) ∧ V.cell? ⟨W.heap.size, 3, none⟩ = some (.int .i64 p.main.last.n) from by
  have h := (hV.block _ hs0).trans hn0
  exact ⟨by simp [World.cell?, h], by simp [World.cell?, h], by simp [World.cell?, h], by simp [World.cell?, h]⟩))
 have HBV := Lib.hid (fun (V : World) (hV : Below W0.heap.size W0 V) => (show Below B W V ∧ Below W.heap.size W V ∧ B ≤ V.heap.size from
  ⟨(hb0.mono hBW).trans (hV.mono (by omega)), hb0.trans (hV.mono hb0.size), by have := hV.size; omega⟩))
 have HF := Lib.hid (fun (j : Nat) (hj : j < p.funs.length) (V : World) (hV : Below W0.heap.size W0 V) => (show ∃ A0 n0 c0 r0 r1, Af = some ⟨b, o, none⟩ ∧ V.cell? ⟨b, o + j * 5, none⟩ = some (.int .i64 p.funs[j].env) ∧ V.cell? ⟨b, o + j * 5 + 1, none⟩ = some (.int .i64 p.funs[j].param) ∧ V.cell? ⟨b, o + j * 5 + 2, none⟩ = some (.slice A0 n0 c0) ∧ V.cell? ⟨b, o + j * 5 + 3, none⟩ = some (.bool r0) ∧ V.cell? ⟨b, o + j * 5 + 4, none⟩ = some (.int .i64 r1) ∧ Hid (∀ V2, Below W0.heap.size W0 V2 → BodyIn B V2 p.funs[j].body #[.slice A0 n0 c0, .bool r0, .int .i64 r1]) from by
  obtain ⟨g0, g1, g2, e0, e1, e2, e3, e4, e5⟩ := hfun j hj
  have hlt := (hA (by omega)).2
  have e5' := e5
  have hV' := (HBV.out V hV).1
  obtain ⟨A0, c0, b0, o0, hv, -⟩ := e5.at_
  simp only [Array.mk.injEq, List.cons.injEq, and_true] at hv
  obtain ⟨rfl, rfl, rfl⟩ := hv
  exact ⟨A0, _, c0, _, _, (hA (by omega)).1, (hV'.cell (p := ⟨_, _, none⟩) hlt).trans e0, (hV'.cell (p := ⟨_, _, none⟩) hlt).trans e1, (hV'.cell (p := ⟨_, _, none⟩) hlt).trans e2, (hV'.cell (p := ⟨_, _, none⟩) hlt).trans e3, (hV'.cell (p := ⟨_, _, none⟩) hlt).trans e4, Lib.hid (fun V2 hV2 => e5'.kept (HBV.out V2 hV2).1)⟩))
 have HM := Lib.hid (fun (V : World) (hV : Below W0.heap.size W0 V) => hmain0.kept (HBV.out V hV).1)
 have HNF := Lib.hid hcf
 have HA := Lib.hid (allT_at hsm)
 have HSM := Lib.hid hsm
 obtain ⟨out, hout⟩ : ∃ z, r30 p = z := ⟨_, rfl⟩
 rw [hout]
 have HO := Lib.hid (show out = (if 1024 < p.funs.length then 6 else if 65536 < totA p.main + totF p.funs ∨ 400 < dpF p.funs (dpN p.main + 1) then 4 else if funsE p.funs.length p.funs ≠ 0 then funsE p.funs.length p.funs else bodyE p.funs.length [] p.main) from hout.symm)
 obtain ⟨k0, k1, k2, k3⟩ := HC.out W0 (Below.refl _ _)
 have HDM := Lib.hid (rdeep_any p.main W0 _ (HM.out W0 (Below.refl _ _)) (HBV.out W0 (Below.refl _ _)).2.2 HA.out.2.1)
 have HSZ := Lib.hid (fun (V : World) (hV : Below W0.heap.size W0 V) => rSize_any hsm V (hin0.kept (HBV.out V hV).1) (HBV.out V hV).2.2)
 have HDB := Lib.hid (dpN_le p.main)
 clear hmain hmain0 hA hfun hb0 hs0 hn0 hsm hout hin0
 have f3 : (p.funs.length : Int) ≤ (cf : Int) := by omega
 obtain ⟨Q, hQ⟩ : ∃ Q, (bodyPost Tryz.prog Tryz.f12 (IntBelow out W)) = Q := ⟨_, rfl⟩
 by_cases h1024 : 1024 < p.funs.length
 · have HE := Lib.hid (show out = 6 from HO.out.trans (by rw [if_pos h1024]))
   have e1 : (1024 : Int) < (p.funs.length : Int) := by omega
   clear HDM hQ
   go_enter Tryz.func12, Tryz.ntmps12
   go_wp2_with fail
   go_ret
   exact ⟨ret_int HE.out.symm, (HBV.out _ (Below.refl _ _)).2.1⟩
 have HO2 := Lib.hid (show out = (if 65536 < totA p.main + totF p.funs ∨ 400 < dpF p.funs (dpN p.main + 1) then 4 else if funsE p.funs.length p.funs ≠ 0 then funsE p.funs.length p.funs else bodyE p.funs.length [] p.main) from HO.out.trans (by rw [if_neg h1024]))
 have e1 : ¬ (1024 : Int) < (p.funs.length : Int) := by omega
 have hnf : p.funs.length ≤ 1024 := by omega
 clear HO h1024 hQ Q
 go_enter Tryz.func12, Tryz.ntmps12
 go_wp2_with fail
 refine HDM.out.mono ?_
 rintro en w1 ⟨rfl, hb1⟩
 have HB1 := Lib.hid hb1
 obtain ⟨e0, e1', e2, e3⟩ := HC.out w1 hb1
 clear hb1 HDM
 have HD0 := Lib.hid (show dpF p.funs (dpN p.main + 1) = dpF (p.funs.drop 0) (dpN p.main + 1) from by rw [List.drop_zero])
 have hm0 : dpN p.main + 1 ≤ 1000000001 := by have h1 := HDB.out; have h2 := HA.out.2.1; omega
 generalize dpN p.main + 1 = dm at *
 obtain ⟨DP, hDP⟩ : ∃ z, dpF p.funs dm = z := ⟨_, rfl⟩
 rw [hDP] at HD0 HO2
 clear hDP
 go_wp2_with fail
 go_loopw [3, 4] (fun n i wr => ∃ (j m : Nat), j ≤ p.funs.length ∧ i = .int .i64 (j : Int) ∧ n = .int .i64 (m : Int) ∧ Hid (Below W0.heap.size W0 wr) ∧ m ≤ 1000000001 ∧ Hid (DP = dpF (p.funs.drop j) m)) (fun _ i _ => p.funs.length + 1 - (intOf i).toNat)
 case atStart => exact ⟨0, dm, by omega, rfl, by first | rfl | (congr 1), HB1, hm0, HD0⟩
 case round =>
  obtain ⟨wo, rfl⟩ : ∃ wo, wo = wr := ⟨_, rfl⟩
  obtain ⟨j, m, hj, rfl, rfl, HW, hm1, HL⟩ := hrel
  obtain ⟨q0, q1, q2, q3⟩ := HC.out wo HW.out
  by_cases hlt : j < p.funs.length
  · obtain ⟨A0, n0, c0, r0, r1, rfl, s0, s1, s2, s3, s4, HBD⟩ := HF.out j hlt wo HW.out
    have f1 : (0 : Int) ≤ (j : Int) := by omega
    have f2 : (j : Int) < (p.funs.length : Int) := by omega
    have f3 : (p.funs.length : Int) ≤ (cf : Int) := by omega
    have f4 : IntKind.i64.wrap ((j : Int) + 1) = (j : Int) + 1 := by rw [IntKind.wrap_i64]; have := h56; omega
    have HS := Lib.hid (rdeep_any p.funs[j].body wo _ (HBD.out wo HW.out) (HBV.out wo HW.out).2.2 (HA.out.2.2 j hlt))
    have HN := Lib.hid (show DP = dpF (p.funs.drop (j + 1)) (max m (dpN p.funs[j].body + 1)) from by rw [HL.out]; exact dpF_drop hlt)
    have hk6 : dpN p.funs[j].body + 1 ≤ 1000000001 := by have h1 := HA.out.2.2 j hlt; have h2 := dpN_le p.funs[j].body; omega
    clear HL
    generalize dpN p.funs[j].body + 1 = nk at *
    have hm6 : max m nk ≤ 1000000001 := by omega
    have hmx : (max (m : Int) (nk : Int)) = ((max m nk : Nat) : Int) := by omega
    go_wp2_with fail
    refine HS.out.mono ?_
    rintro en w5 ⟨rfl, hb5⟩
    have HB5 := Lib.hid (HW.out.trans (hb5.mono HW.out.size))
    clear hb5 HS
    go_wp2_with fail
    go_roundw
    case rel => exact ⟨j + 1, max m nk, by omega, by go_num, by first | rfl | (simp; done) | (congr 1; omega) | (simp; omega), HB5, hm6, HN⟩
    case measure => simp [intOf]; omega
  · have f2' : ¬ (j : Int) < (p.funs.length : Int) := by omega
    have hme : DP = m := by
     have h := HL.out
     rw [List.drop_of_length_le (by omega)] at h
     exact h
    subst hme
    have HS := Lib.hid (HSZ.out wo HW.out)
    have HOL := Lib.hid HO2.out
    clear HO2
    obtain ⟨ml, hml⟩ : ∃ z, p.main.len = z := ⟨_, rfl⟩
    obtain ⟨mv, hmv⟩ : ∃ z, p.main.last.v = z := ⟨_, rfl⟩
    obtain ⟨mn, hmn⟩ : ∃ z, p.main.last.n = z := ⟨_, rfl⟩
    have HML := Lib.hid hml
    have HMV := Lib.hid hmv
    have HMN := Lib.hid hmn
    have HM' := HM
    rw [hml, hmv, hmn] at HC HS hW0 ⊢
    rw [hml] at q1
    rw [hmv] at q2
    rw [hmn] at q3
    clear hml hmv hmn
    generalize totA p.main + totF p.funs = sz at *
    go_wp2_with fail
    refine HS.out.mono ?_
    rintro en w5 ⟨rfl, hb5⟩
    have HB5 := Lib.hid (HW.out.trans (hb5.mono HW.out.size))
    obtain ⟨o0, o1, o2, o3⟩ := HC.out w5 HB5.out
    clear hb5 HS
    by_cases hs1 : 65536 < sz
    · have g1 : (65536 : Int) < (sz : Int) := by omega
      have g2 : decide ((65536 : Int) < (sz : Int)) = true := by simpa using g1
      have HE := Lib.hid (show out = 4 from HOL.out.trans (by rw [if_pos (Or.inl hs1)]))
      clear HOL hs1
      go_wp2_with fail
      go_ret
      exact ⟨ret_int HE.out.symm, (HBV.out _ HB5.out).2.1⟩
    have g1 : ¬ (65536 : Int) < (sz : Int) := by omega
    have g2 : decide ((65536 : Int) < (sz : Int)) = false := by simpa using g1
    by_cases hs2 : 400 < DP
    · have g3 : (400 : Int) < (DP : Int) := by omega
      have HE := Lib.hid (show out = 4 from HOL.out.trans (by rw [if_pos (Or.inr hs2)]))
      clear HOL hs1 hs2
      go_wp2_with fail
      go_ret
      exact ⟨ret_int HE.out.symm, (HBV.out _ HB5.out).2.1⟩
    have g3 : ¬ (400 : Int) < (DP : Int) := by omega
    have HO3 := Lib.hid (show out = (if funsE p.funs.length p.funs ≠ 0 then funsE p.funs.length p.funs else bodyE p.funs.length [] p.main) from HOL.out.trans (by rw [if_neg (by omega)]))
    clear HOL hs1 hs2
    go_wp2_with fail
    go_loopw [5] (fun iv wr => ∃ (i : Nat), i ≤ p.funs.length ∧ iv = .int .i64 (i : Int) ∧ Hid (Below W0.heap.size W0 wr) ∧ Hid (out = (if funsE p.funs.length (p.funs.drop i) ≠ 0 then funsE p.funs.length (p.funs.drop i) else bodyE p.funs.length [] p.main))) (fun iv _ => p.funs.length + 1 - (intOf iv).toNat)
    case atStart => exact ⟨0, by omega, rfl, HB5, Lib.hid (by rw [List.drop_zero]; exact HO3.out)⟩
    case round =>
     obtain ⟨wx, rfl⟩ : ∃ wx, wx = wr := ⟨_, rfl⟩
     obtain ⟨i, hi, rfl, HX, HOI⟩ := hrel
     obtain ⟨z0, z1, z2, z3⟩ := HC.out wx HX.out
     by_cases hil : i < p.funs.length
     · obtain ⟨A0, n0, c0, r0, r1, rfl, s0, s1, s2, s3, s4, HBD⟩ := HF.out i hil wx HX.out
       have f1 : (0 : Int) ≤ (i : Int) := by omega
       have f2 : (i : Int) < (p.funs.length : Int) := by omega
       have f4 : IntKind.i64.wrap ((i : Int) + 1) = (i : Int) + 1 := by rw [IntKind.wrap_i64]; omega
       obtain ⟨W4, hW4⟩ : ∃ W4, wx.alloc (.cells #[.int .i64 p.funs[i].env, .int .i64 p.funs[i].param, .slice A0 n0 c0, .bool r0, .int .i64 r1] 54) = W4 := ⟨_, rfl⟩
       have hb4 : Below wx.heap.size wx W4 := by rw [← hW4]; exact (Below.refl _ _).alloc (Nat.le_refl _) _
       have hn4 : W4.heap[wx.heap.size]? = some (.cells #[.int .i64 p.funs[i].env, .int .i64 p.funs[i].param, .slice A0 n0 c0, .bool r0, .int .i64 r1] 54 (0, 0)) := by rw [← hW4]; exact World.alloc_heap_new wx _
       have HX4 := Lib.hid (show wx.heap.size < W4.heap.size from by rw [← hW4]; simp)
       have HP := Lib.hid (fun (V : World) (hV : Below W4.heap.size W4 V) => (show V.cell? ⟨wx.heap.size, 0, none⟩ = some (.int .i64 p.funs[i].env) ∧ V.cell? ⟨wx.heap.size, 1, none⟩ = some (.int .i64 p.funs[i].param) ∧ V.cell? ⟨wx.heap.size, 2, none⟩ = some (.slice A0 n0 c0) ∧ V.cell? ⟨wx.heap.size, 3, none⟩ = some (.bool r0) ∧ V.cell? ⟨wx.heap.size, 4, none⟩ = some (.int .i64 r1) from by
        have h := (hV.block wx.heap.size HX4.out).trans hn4
        exact ⟨by simp [World.cell?, h], by simp [World.cell?, h], by simp [World.cell?, h], by simp [World.cell?, h], by simp [World.cell?, h]⟩))
       obtain ⟨p0, p1, p2, p3, p4⟩ := HP.out W4 (Below.refl _ _)
       have HB4 := Lib.hid (HX.out.trans (hb4.mono HX.out.size))
       obtain ⟨l0, l1, l2, l3⟩ := HC.out W4 HB4.out
       have HFE := Lib.hid (funsE_drop (nf := p.funs.length) hil)
       have HMS := Lib.hid (szFuns_at (List.getElem_mem hil))
       clear hb4 hn4
       generalize p.funs[i].env = ee at *
       generalize p.funs[i].param = pp at *
       generalize p.funs[i].body = bo at *
       have hvk : varB ee = false ∨ (varB ee = true ∧ varB pp = false) ∨ (varB ee = true ∧ varB pp = true) := by
        cases varB ee <;> cases varB pp <;> simp
       rcases hvk with v1 | ⟨v1, v2⟩ | ⟨v1, v2⟩
       · have hfe : funsE p.funs.length (p.funs.drop i) = 2 := HFE.out.trans (if_pos (Or.inl v1))
         have HE := Lib.hid (show out = 2 from HOI.out.trans (by rw [hfe]; rfl))
         clear hfe
         go_wp2_with (go_at_call 26; refine (isVar_any _ _).mono ?_; rintro en w' ⟨rfl, rfl⟩)
         go_ret
         exact ⟨ret_int HE.out.symm, (HBV.out _ HB4.out).2.1⟩
       · have hfe : funsE p.funs.length (p.funs.drop i) = 2 := HFE.out.trans (if_pos (Or.inr v2))
         have HE := Lib.hid (show out = 2 from HOI.out.trans (by rw [hfe]; rfl))
         clear hfe
         go_wp2_with (go_at_call 26; refine (isVar_any _ _).mono ?_; rintro en w' ⟨rfl, rfl⟩)
         go_ret
         exact ⟨ret_int HE.out.symm, (HBV.out _ HB4.out).2.1⟩
       · have HF1 := Lib.hid (HFE.out.trans (if_neg (by rw [v1, v2]; simp)))
         by_cases heq : ee = pp
         · have heq' : (ee == pp) = true := by simpa using heq
           have hfe : funsE p.funs.length (p.funs.drop i) = 9 := HF1.out.trans (if_pos heq)
           have HE := Lib.hid (show out = 9 from HOI.out.trans (by rw [hfe]; rfl))
           clear hfe heq
           go_wp2_with (go_at_call 26; refine (isVar_any _ _).mono ?_; rintro en w' ⟨rfl, rfl⟩)
           go_ret
           exact ⟨ret_int HE.out.symm, (HBV.out _ HB4.out).2.1⟩
         · have heq' : (ee == pp) = false := by simpa using heq
           have HF2 := Lib.hid (show funsE p.funs.length (p.funs.drop i) = if bodyE p.funs.length [ee, pp] bo ≠ 0 then bodyE p.funs.length [ee, pp] bo else funsE p.funs.length (p.funs.drop (i + 1)) from by
            have h := HF1.out.trans (if_neg heq)
            have hsw : bodyE p.funs.length [pp, ee] bo = bodyE p.funs.length [ee, pp] bo := bodyE_same bo (fun x => by simp [Bool.or_comm])
            rw [hsw] at h
            exact h)
           obtain ⟨W5, hW5⟩ : ∃ W5, W4.alloc (.cells #[.int .i64 ee, .int .i64 pp] 3) = W5 := ⟨_, rfl⟩
           have hb5 : Below W4.heap.size W4 W5 := by rw [← hW5]; exact (Below.refl _ _).alloc (Nat.le_refl _) _
           have hn5 : W5.heap[W4.heap.size]? = some (.cells #[.int .i64 ee, .int .i64 pp] 3 (0, 0)) := by rw [← hW5]; exact World.alloc_heap_new W4 _
           have HB5' := Lib.hid (HB4.out.trans (hb5.mono HB4.out.size))
           have hcc : ∀ j, j < [ee, pp].length → W5.cell? ⟨W4.heap.size, 0 + j, none⟩ = some (.int .i64 (nth [ee, pp] j)) := fun j hj => by
            have : j = 0 ∨ j = 1 := by simp at hj; omega
            rcases this with rfl | rfl <;> simp [World.cell?, hn5, nth]
           have HCALL := Lib.hid (show Calls Tryz.prog 27 #[.agg #[.slice A0 n0 c0, .bool r0, .int .i64 r1], .int .i64 (p.funs.length : Int), .slice (some ⟨W4.heap.size, 0, none⟩) 2 2] W5 (IntBelow (bodyE p.funs.length [ee, pp] bo) W5) from
            rblock_any (by omega) bo [ee, pp] W5 _ (some ⟨W4.heap.size, 0, none⟩) 2 (HBD.out W5 HB5'.out) (HBV.out W5 HB5'.out).2.2 ⟨by simp, .inr ⟨W4.heap.size, 0, rfl, by rw [← hW5]; simp, hcc⟩⟩ (by simp) (by have h1 := HMS.out; have h2 := HSM.out.size; simp; omega))
           obtain ⟨ev, hev⟩ : ∃ z, bodyE p.funs.length [ee, pp] bo = z := ⟨_, rfl⟩
           rw [hev] at HCALL HF2
           clear hb5 hn5 hcc heq HFE HF1 hev
           go_wp2_with (go_at_call 26; refine (isVar_any _ _).mono ?_; rintro en w' ⟨rfl, rfl⟩)
           refine HCALL.out.mono ?_
           rintro en w7 ⟨rfl, hb7⟩
           have HB7 := Lib.hid (HB5'.out.trans (hb7.mono HB5'.out.size))
           clear hb7 HCALL
           dsimp only
           by_cases hz : ev = 0
           · subst hz
             have HO8 := Lib.hid (show out = (if funsE p.funs.length (p.funs.drop (i + 1)) ≠ 0 then funsE p.funs.length (p.funs.drop (i + 1)) else bodyE p.funs.length [] p.main) from by
              have h := HF2.out.trans (if_neg (by simp))
              rw [← h]; exact HOI.out)
             clear HF2
             go_wp2_with fail
             go_roundw
             case rel => exact ⟨i + 1, by omega, by go_num, HB7, HO8⟩
             case measure => simp [intOf]; omega
           · have hfe := HF2.out.trans (if_pos hz)
             have HE := Lib.hid (show out = ev from HOI.out.trans (by rw [hfe, if_pos hz]))
             have hz6 : (ev == 0) = false := by simpa using hz
             have hz7 : (ev != 0) = true := by simpa using hz
             clear hfe HF2 hz
             go_wp2_with fail
             go_ret
             exact ⟨ret_int HE.out.symm, (HBV.out _ HB7.out).2.1⟩
     · have f2' : ¬ (i : Int) < (p.funs.length : Int) := by omega
       have HE := Lib.hid (show out = bodyE p.funs.length [] p.main from HOI.out.trans (by rw [List.drop_of_length_le (by omega)]; rfl))
       have HCALL := Lib.hid (show Calls Tryz.prog 27 #[.agg #[.slice A1 p.main.len c1, .bool p.main.last.v, .int .i64 p.main.last.n], .int .i64 (p.funs.length : Int), .slice none 0 0] wx (IntBelow (bodyE p.funs.length [] p.main) wx) from
        rblock_any (by omega) p.main [] wx _ none 0 (HM'.out wx HX.out) (HBV.out wx HX.out).2.2 ⟨by simp, .inl rfl⟩ (by simp) (by have h2 := HSM.out.size; simp; omega))
       rw [HML.out, HMV.out, HMN.out] at HCALL
       go_wp2_with fail
       refine HCALL.out.mono ?_
       rintro en w7 ⟨rfl, hb7⟩
       have HB7 := Lib.hid (HX.out.trans (hb7.mono HX.out.size))
       clear hb7 HCALL
       dsimp only
       go_wp2_with fail
       go_ret
       exact ⟨ret_int HE.out.symm, (HBV.out _ HB7.out).2.1⟩
end Go.Proofs.YtnobggabjpcbfaaGreat
