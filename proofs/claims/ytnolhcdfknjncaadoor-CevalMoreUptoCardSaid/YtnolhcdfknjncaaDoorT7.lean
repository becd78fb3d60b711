/-
  The program's evaluator: switches.
-/
import Derived.Test.YtnolhcdfknjncaaDoorT6
set_option linter.unusedVariables false
set_option linter.unusedSimpArgs false
namespace Go.Proofs.YtnolhcdfknjncaaDoor
open Go.RowKit

theorem whichAt_found {ks : List Int} {key : Int} {j : Nat} (hj : j < ks.length) (h : nth ks j = key) (hn : ∀ i, i < j → nth ks i ≠ key) : whichAt ks key = j + 1 := by
  have : ks.findIdx? (· == key) = some j := by
    rw [List.findIdx?_eq_some_iff_getElem]
    refine ⟨hj, by rw [nth_eq ks hj] at h; simp [h], fun i hi => ?_⟩
    have := hn i hi
    rw [nth_eq ks (by omega)] at this
    simpa using this
  simp [whichAt, this]
theorem whichAt_none {ks : List Int} {key : Int} (hn : ∀ i, i < ks.length → nth ks i ≠ key) : whichAt ks key = 0 := by
  have : ks.findIdx? (· == key) = none := by
    rw [List.findIdx?_eq_none_iff]
    intro x hx
    obtain ⟨i, hi, rfl⟩ := List.getElem_of_mem hx
    have := hn i hi
    rw [nth_eq ks hi] at this
    simpa using this
  simp [whichAt, this]

set_option maxRecDepth 100000 in
set_option maxHeartbeats 4000000 in
theorem term_switch {rb B : Nat} {inp : List Int} {fuel n : Nat} (hok : TermOk rb B inp fuel n) {s : St} {m : Mem} {W : World} (hg : Good rb B inp fuel s m W) {t : Core} {v : Array Value} (hin : CoreIn B W t v) (hwt : WT t) {e : PEnv} {ge : Value} (he : EnvIn rb m W e ge) (hn : s.left < n + 1) (h0 : 0 < s.left) (hk : t.k = 9) :
    Calls Tryd.prog 26 #[.pointer (some ⟨rb, 0, none⟩), .agg v, ge] W (EvPost rb B inp fuel m W (bodyP inp (ev inp n) t e { s with left := s.left - 1 })) := by
  obtain ⟨hb, hg3, hT⟩ := frame_at hg hin he
  have hrbl := hg.mutLt (k := rb) (.inl rfl)
  obtain ⟨k0, n0, ks, cs, Ak, ck, Ac, cc, b, o, G0, G1, G2, G3, rfl, rfl, hks, hck, hcc, hK⟩ := hin.open_
  simp only [Core.k] at hk
  subst hk
  obtain ⟨pk, rfl⟩ := he.shape
  obtain ⟨Ai, ci, hr, _⟩ := hg3.run
  have hfu := hg.fuelB
  have hle := hg.left
  have hbn := hg.bnd
  obtain ⟨st, hst⟩ : ∃ st : Int, st = (fuel : Int) - s.left := ⟨_, rfl⟩
  have hst0 : 0 ≤ st := by omega
  have hst1 : st < (fuel : Int) := by omega
  have hst2 : st ≤ 1000000 := by omega
  have r1 : (frameW W rb #[.int .i64 9, .int .i64 n0, .slice Ak ks.length ck, .slice Ac cs.length cc] (.pointer pk)).cell? ⟨rb, 1, none⟩ = some (.int .i64 fuel) := by simp [World.cell?, hr]
  have r5 : (frameW W rb #[.int .i64 9, .int .i64 n0, .slice Ak ks.length ck, .slice Ac cs.length cc] (.pointer pk)).cell? ⟨rb, 5, none⟩ = some (.int .i64 st) := by simp [World.cell?, hr, hst]
  have f5 : (frameW W rb #[.int .i64 9, .int .i64 n0, .slice Ak ks.length ck, .slice Ac cs.length cc] (.pointer pk)).frozen? ⟨rb, 5, none⟩ = false := by simp [World.frozen?, hr]
  have b0 := at_cell0 hT.r (i := 0) rfl
  simp only [List.getElem_toArray, List.getElem_cons_zero] at b0
  have hX : ∀ nq : Nat, Good rb B inp fuel { s with left := s.left - 1 } m (((frameW W rb #[.int .i64 9, .int .i64 n0, .slice Ak ks.length ck, .slice Ac cs.length cc] (.pointer pk)).drewN nq).setCell ⟨rb, 5, none⟩ (.int .i64 (st + 1))) ∧
      Evo rb m m W (((frameW W rb #[.int .i64 9, .int .i64 n0, .slice Ak ks.length ck, .slice Ac cs.length cc] (.pointer pk)).drewN nq).setCell ⟨rb, 5, none⟩ (.int .i64 (st + 1))) ∧
      TermAt rb B m (((frameW W rb #[.int .i64 9, .int .i64 n0, .slice Ak ks.length ck, .slice Ac cs.length cc] (.pointer pk)).drewN nq).setCell ⟨rb, 5, none⟩ (.int .i64 (st + 1))) (.mk 9 n0 ks cs) #[.int .i64 9, .int .i64 n0, .slice Ak ks.length ck, .slice Ac cs.length cc] e (.pointer pk) W.heap.size := by
    intro nq
    have hkd : Evo rb m m (frameW W rb #[.int .i64 9, .int .i64 n0, .slice Ak ks.length ck, .slice Ac cs.length cc] (.pointer pk)) ((frameW W rb #[.int .i64 9, .int .i64 n0, .slice Ak ks.length ck, .slice Ac cs.length cc] (.pointer pk)).drewN nq) := Evo.below (below_drewN (Below.refl _ _) _)
    obtain ⟨q1, q2⟩ := (hg3.below (below_drewN (Below.refl _ _) nq)).step h0
    rw [← hst] at q1 q2
    exact ⟨q1, ((Evo.below hb).trans hkd).trans q2, hT.evo hg3 (hkd.trans q2)⟩
  have x0 := fun nq => (fun (hx : TermAt rb B m (((frameW W rb #[.int .i64 9, .int .i64 n0, .slice Ak ks.length ck, .slice Ac cs.length cc] (.pointer pk)).drewN nq).setCell ⟨rb, 5, none⟩ (.int .i64 (st + 1))) (.mk 9 n0 ks cs) #[.int .i64 9, .int .i64 n0, .slice Ak ks.length ck, .slice Ac cs.length cc] e (.pointer pk) W.heap.size) =>
    (show _ ∧ _ ∧ _ ∧ _ ∧ _ ∧ _ from ⟨at_cell0 hx.r (i := 0) rfl, at_cell0 hx.c (i := 0) rfl, at_cell0 hx.c (i := 1) rfl, at_cell0 hx.c (i := 2) rfl, at_cell0 hx.c (i := 3) rfl, at_cell0 hx.k (i := 0) rfl⟩)) (hX nq).2.2
  have y0 := fun nq => (x0 nq).1
  have y10 := fun nq => (x0 nq).2.1
  have y11 := fun nq => (x0 nq).2.2.1
  have y12 := fun nq => (x0 nq).2.2.2.1
  have y13 := fun nq => (x0 nq).2.2.2.2.1
  have y20 := fun nq => (x0 nq).2.2.2.2.2
  simp only [List.getElem_toArray, List.getElem_cons_zero, List.getElem_cons_succ] at y0 y10 y11 y12 y13 y20
  have HX := Lib.hid hX
  have HST := Lib.hid (fun (m' : Mem) (V' : World) (h : Evo rb m m' W V') => hg.stay h)
  have hWT := Lib.hid hwt
  have HOK := Lib.hid hok
  have hn' : s.left - 1 < n := by omega
  have HLT := Lib.hid (show s.out.length + (s.left - 1) < fuel by omega)
  obtain ⟨out, hout⟩ : ∃ out, bodyP inp (ev inp n) (.mk 9 n0 ks cs) e { s with left := s.left - 1 } = out := ⟨_, rfl⟩
  rw [hout]
  have HO := Lib.hid hout
  unfold frameW at r1 r5 f5 b0 y0 y10 y11 y12 y13 y20 HX
  clear hb hg hg3 hT hin he hr hX x0 hst hok hwt hn h0 hle hbn hout
  have hcl : cs.length = ks.length + 2 := by
    have h1 := hWT.out.node.2.2.2.1
    simp only [Core.k, Core.ks, Core.cs, Core.n, cntB] at h1
    rw [if_neg (by decide), if_pos trivial] at h1
    exact of_decide_eq_true h1
  have hp0 : 0 < cs.length := by omega
  have hpi0 : (0 : Int) < (cs.length : Int) := by omega
  have HCL := Lib.hid hcl
  have hks64 := hks.1
  have HKS := Lib.hid hks
  clear hcl hks
  go_enter Tryd.func26, Tryd.ntmps26
  go_wp2_with fail
  go_quiet (fail)
  go_wp2_with fail
  obtain ⟨gX, eX, tX⟩ := HX.out nq
  have z0 := y0 nq
  have z10 := y10 nq
  have z11 := y11 nq
  have z12 := y12 nq
  have z13 := y13 nq
  have z20 := y20 nq
  clear y0 y10 y11 y12 y13 y20 r1 r5 f5 b0 HX
  generalize (((((W.alloc (.cells #[.pointer (some ⟨rb, 0, none⟩)] 49)).alloc (.cells #[.int .i64 9, .int .i64 n0, .slice Ak ks.length ck, .slice Ac cs.length cc] 26)).alloc (.cells #[.pointer pk] 83)).drewN nq).setCell ⟨rb, 5, none⟩ (.int .i64 (st + 1))) = V at *
  have HKid := Lib.hid (fun (i : Nat) (hi : i < cs.length) (s' : St) (m' : Mem) (V' : World) (hE : Evo rb m m' V V') (hg' : Good rb B inp fuel s' m' V') (hn1 : s'.left < n) => (show Calls Tryd.prog 38 #[.int .i64 (i : Int), .pointer (some ⟨W.heap.size, 0, none⟩), .pointer (some ⟨W.heap.size + 1, 0, none⟩), .pointer (some ⟨W.heap.size + 1 + 1, 0, none⟩)] V' (EvPost rb B inp fuel m' V' (ev inp n cs[i] e s')) from
     kid_term HOK.out hg' (tX.evo gX hE) hWT.out hi hn1))
  have hO1 := HO.out.symm.trans (show _ = Out.andThen (ev inp n cs[0] e { s with left := s.left - 1 }) (fun v s => (match keyOf v with | some key => ev inp n (cs[1 + whichAt ks key]?.getD default) e s | none => (.stuck, s) : Out)) from by simp [bodyP, Core.k, Core.n, Core.cs, Core.ks, hp0]; rfl)
  have C0 := Lib.hid ((HKid.out 0 hp0 _ m V (Evo.refl _ _ _) gX hn').mono fun en V1 h => kidEnds h eX hO1)
  have HO1 := Lib.hid hO1
  clear hO1
  have hle := (ev_le inp n cs[0] e { s with left := s.left - 1 }).left
  have HS := Lib.hid (fun (V' : World) (m' : Mem) (hE : Evo rb m m' V V') => (show V'.cell? ⟨W.heap.size + 1, 2, none⟩ = some (.slice Ak ks.length ck) from at_cell0 (tX.c.evo hE) rfl))
  refine C0.out.mono ?_
  rintro en V1 (⟨v, s2, m2, T, x, hO, rfl, hk1, hg1, hv⟩ | ⟨ch, rfl, _, hP⟩)
  rotate_left
  · exact ⟨rfl, hP⟩
  have zz := HS.out _ _ hk1
  have hO2 := HO1.out
  rw [hO] at hO2 hle
  have hE1 := Lib.hid (eX.trans hk1)
  have HKEY := Lib.hid (key_any hv)
  cases hky : keyOf v with
  | none =>
    have he : out = (.stuck, s2) := by
      have : out = (match keyOf v with | some key => ev inp n (cs[1 + whichAt ks key]?.getD default) e s2 | none => (.stuck, s2) : Out) := hO2
      rw [hky] at this; exact this
    have HN := Lib.hid (show EvPost rb B inp fuel m W out (.panicked (stopV 4)) V1 from by rw [he]; exact EvPost.stuck hE1.out hg1 (thrown_one _ _))
    have HK2 := Lib.hid (HKEY.out.mono (R' := fun e w' => e = .panicked (stopV 4) ∧ V1 = w') (by
      rintro e w' (⟨n, hn, rfl, rfl⟩ | ⟨hn, rfl, rfl⟩)
      · rw [hky] at hn; cases hn
      · exact ⟨rfl, rfl⟩))
    clear hO2 he hO hk1 hg1 hv gX eX tX HKid C0 hky hle
    go_wp2_with (go_at_call 37; refine HK2.out.mono ?_; rintro e w' ⟨rfl, rfl⟩)
    exact ⟨rfl, HN.out⟩
  | some key =>
    have he : out = ev inp n (cs[1 + whichAt ks key]?.getD default) e s2 := by
      have : out = (match keyOf v with | some key => ev inp n (cs[1 + whichAt ks key]?.getD default) e s2 | none => (.stuck, s2) : Out) := hO2
      rw [hky] at this; exact this
    have HK2 := Lib.hid (HKEY.out.mono (R' := fun e w' => e = .returned (.int .i64 key) ∧ V1 = w') (by
      rintro e w' (⟨n, hn, rfl, rfl⟩ | ⟨hn, rfl, rfl⟩)
      · rw [hky] at hn; cases hn; exact ⟨rfl, rfl⟩
      · rw [hky] at hn; cases hn))
    have HL := Lib.hid (fun (i : Nat) (hi : i < cs.length) (h : whichAt ks key + 1 = i) => (show Calls Tryd.prog 38 #[.int .i64 (i : Int), .pointer (some ⟨W.heap.size, 0, none⟩), .pointer (some ⟨W.heap.size + 1, 0, none⟩), .pointer (some ⟨W.heap.size + 1 + 1, 0, none⟩)] V1 (LastEnds rb B inp fuel m2 V1 m W out) from
      (HKid.out i hi s2 m2 V1 hk1 hg1 (Nat.lt_of_le_of_lt hle hn')).mono fun en V2 hh => by
        have h2 : out = ev inp n cs[i] e s2 := by
          rw [he, show 1 + whichAt ks key = i by omega]; simp [hi]
        rw [h2]; exact lastEnds hh hE1.out))
    have HC := Lib.hid (fun (j : Nat) (hj : j < ks.length) => (show ∃ b o, Ak = some ⟨b, o, none⟩ ∧ V1.cell? ⟨b, o + j, none⟩ = some (.int .i64 (nth ks j)) from by
      obtain ⟨b, o, h1, h2, h3⟩ := HKS.out.at_ (by omega)
      exact ⟨b, o, h1, HST.out _ _ hE1.out _ _ _ h2 (h3 j hj)⟩))
    clear hO2 he hO hk1 hg1 hv gX eX tX HKid C0 hky hle
    go_wp2_with (go_at_call 37; refine HK2.out.mono ?_; rintro e w' ⟨rfl, rfl⟩)
    go_loopw [148] (fun i wr => ∃ (j : Nat), j ≤ ks.length ∧ i = .int .i64 (j : Int) ∧ V1 = wr ∧ Hid (∀ i, i < j → nth ks i ≠ key)) (fun i _ => ks.length + 1 - (intOf i).toNat)
    case atStart => exact ⟨0, by omega, rfl, rfl, Lib.hid (by intro i hi; omega)⟩
    case round =>
      obtain ⟨j, hj, rfl, rfl, hno⟩ := hrel
      by_cases hlt : j < ks.length
      · obtain ⟨kb, ko, rfl, hkc⟩ := HC.out j hlt
        have hj0 : (0 : Int) ≤ (j : Int) := by omega
        have hjl : (j : Int) < (ks.length : Int) := by omega
        by_cases hxk : nth ks j = key
        · have hxk' : (nth ks j == key) = true := by simpa using hxk
          have HW := Lib.hid (whichAt_found hlt hxk hno.out)
          have HLL := Lib.hid (show Calls Tryd.prog 38 #[.int .i64 (2 + (j : Int)), .pointer (some ⟨W.heap.size, 0, none⟩), .pointer (some ⟨W.heap.size + 1, 0, none⟩), .pointer (some ⟨W.heap.size + 1 + 1, 0, none⟩)] V1 (LastEnds rb B inp fuel m2 V1 m W out) from by
            have := HL.out (2 + j) (by have := HCL.out; omega) (by have := HW.out; omega)
            rwa [show ((2 + j : Nat) : Int) = 2 + (j : Int) by omega] at this)
          clear hxk
          go_wp2_with (go_at_call 38; refine HLL.out.mono ?_; rintro en w' ⟨⟨g, rfl⟩ | ⟨ch, rfl⟩, ⟨m4, hk4⟩, hP⟩; rotate_left; exact ⟨rfl, hP⟩)
          all_goals (go_ret; exact hP)
        · have hxk' : (nth ks j == key) = false := by simpa using hxk
          have hno' : Hid (∀ i, i < j + 1 → nth ks i ≠ key) := Lib.hid (fun i hi => by
            by_cases h : i = j
            · subst h; exact hxk
            · exact hno.out i (by omega))
          clear hxk
          go_wp2_with fail
          go_roundw
          case rel => exact ⟨j + 1, by omega, by go_num, trivial, hno'⟩
          case measure => simp [intOf]; omega
      · have hjn : j = ks.length := by omega
        have HW := Lib.hid (whichAt_none (fun i hi => hno.out i (by omega)))
        have hjl : ¬ (j : Int) < (ks.length : Int) := by omega
        have HLL := Lib.hid (show Calls Tryd.prog 38 #[.int .i64 1, .pointer (some ⟨W.heap.size, 0, none⟩), .pointer (some ⟨W.heap.size + 1, 0, none⟩), .pointer (some ⟨W.heap.size + 1 + 1, 0, none⟩)] V1 (LastEnds rb B inp fuel m2 V1 m W out) from
          HL.out 1 (by have := HCL.out; omega) (by have := HW.out; omega))
        subst hjn
        go_wp2_with (go_at_call 38; refine HLL.out.mono ?_; rintro en w' ⟨⟨g, rfl⟩ | ⟨ch, rfl⟩, ⟨m4, hk4⟩, hP⟩; rotate_left; exact ⟨rfl, hP⟩)
        all_goals (go_ret; exact hP)
end Go.Proofs.YtnolhcdfknjncaaDoor
