/-
  The program's evaluator: fields, switches.
-/
import Derived.Test.YtnolhcdfknjncaaDoorT5
set_option linter.unusedVariables false
set_option linter.unusedSimpArgs false
namespace Go.Proofs.YtnolhcdfknjncaaDoor
open Go.RowKit

set_option maxRecDepth 100000 in
set_option maxHeartbeats 4000000 in
theorem term_field {rb B : Nat} {inp : List Int} {fuel n : Nat} (hok : TermOk rb B inp fuel n) {s : St} {m : Mem} {W : World} (hg : Good rb B inp fuel s m W) {t : Core} {v : Array Value} (hin : CoreIn B W t v) (hwt : WT t) {e : PEnv} {ge : Value} (he : EnvIn rb m W e ge) (hn : s.left < n + 1) (h0 : 0 < s.left) (hk : t.k = 8) :
    Calls Tryd.prog 26 #[.pointer (some ⟨rb, 0, none⟩), .agg v, ge] W (EvPost rb B inp fuel m W (bodyP inp (ev inp n) t e { s with left := s.left - 1 })) := by
  obtain ⟨hb, hg3, hT⟩ := frame_at hg hin he
  have hrbl := hg.mutLt (k := rb) (.inl rfl)
  obtain ⟨k0, n0, ks, cs, Ak, ck, Ac, cc, b, o, G0, G1, G2, G3, rfl, rfl, hks, hck, hcc, hK⟩ := hin.open_
  simp only [Core.k] at hk
  subst hk
  obtain ⟨pk, rfl⟩ := he.shape
  obtain ⟨Ai, ci, hr, _⟩ := hg3.run
  have hfu := hg.fuelB
  have hle := hg.left
  have hbn := hg.bnd
  obtain ⟨st, hst⟩ : ∃ st : Int, st = (fuel : Int) - s.left := ⟨_, rfl⟩
  have hst0 : 0 ≤ st := by omega
  have hst1 : st < (fuel : Int) := by omega
  have hst2 : st ≤ 1000000 := by omega
  have r1 : (frameW W rb #[.int .i64 8, .int .i64 n0, .slice Ak ks.length ck, .slice Ac cs.length cc] (.pointer pk)).cell? ⟨rb, 1, none⟩ = some (.int .i64 fuel) := by simp [World.cell?, hr]
  have r5 : (frameW W rb #[.int .i64 8, .int .i64 n0, .slice Ak ks.length ck, .slice Ac cs.length cc] (.pointer pk)).cell? ⟨rb, 5, none⟩ = some (.int .i64 st) := by simp [World.cell?, hr, hst]
  have f5 : (frameW W rb #[.int .i64 8, .int .i64 n0, .slice Ak ks.length ck, .slice Ac cs.length cc] (.pointer pk)).frozen? ⟨rb, 5, none⟩ = false := by simp [World.frozen?, hr]
  have b0 := at_cell0 hT.r (i := 0) rfl
  simp only [List.getElem_toArray, List.getElem_cons_zero] at b0
  have hX : ∀ nq : Nat, Good rb B inp fuel { s with left := s.left - 1 } m (((frameW W rb #[.int .i64 8, .int .i64 n0, .slice Ak ks.length ck, .slice Ac cs.length cc] (.pointer pk)).drewN nq).setCell ⟨rb, 5, none⟩ (.int .i64 (st + 1))) ∧
      Evo rb m m W (((frameW W rb #[.int .i64 8, .int .i64 n0, .slice Ak ks.length ck, .slice Ac cs.length cc] (.pointer pk)).drewN nq).setCell ⟨rb, 5, none⟩ (.int .i64 (st + 1))) ∧
      TermAt rb B m (((frameW W rb #[.int .i64 8, .int .i64 n0, .slice Ak ks.length ck, .slice Ac cs.length cc] (.pointer pk)).drewN nq).setCell ⟨rb, 5, none⟩ (.int .i64 (st + 1))) (.mk 8 n0 ks cs) #[.int .i64 8, .int .i64 n0, .slice Ak ks.length ck, .slice Ac cs.length cc] e (.pointer pk) W.heap.size := by
    intro nq
    have hkd : Evo rb m m (frameW W rb #[.int .i64 8, .int .i64 n0, .slice Ak ks.length ck, .slice Ac cs.length cc] (.pointer pk)) ((frameW W rb #[.int .i64 8, .int .i64 n0, .slice Ak ks.length ck, .slice Ac cs.length cc] (.pointer pk)).drewN nq) := Evo.below (below_drewN (Below.refl _ _) _)
    obtain ⟨q1, q2⟩ := (hg3.below (below_drewN (Below.refl _ _) nq)).step h0
    rw [← hst] at q1 q2
    exact ⟨q1, ((Evo.below hb).trans hkd).trans q2, hT.evo hg3 (hkd.trans q2)⟩
  have x0 := fun nq => (fun (hx : TermAt rb B m (((frameW W rb #[.int .i64 8, .int .i64 n0, .slice Ak ks.length ck, .slice Ac cs.length cc] (.pointer pk)).drewN nq).setCell ⟨rb, 5, none⟩ (.int .i64 (st + 1))) (.mk 8 n0 ks cs) #[.int .i64 8, .int .i64 n0, .slice Ak ks.length ck, .slice Ac cs.length cc] e (.pointer pk) W.heap.size) =>
    (show _ ∧ _ ∧ _ ∧ _ ∧ _ ∧ _ from ⟨at_cell0 hx.r (i := 0) rfl, at_cell0 hx.c (i := 0) rfl, at_cell0 hx.c (i := 1) rfl, at_cell0 hx.c (i := 2) rfl, at_cell0 hx.c (i := 3) rfl, at_cell0 hx.k (i := 0) rfl⟩)) (hX nq).2.2
  have y0 := fun nq => (x0 nq).1
  have y10 := fun nq => (x0 nq).2.1
  have y11 := fun nq => (x0 nq).2.2.1
  have y12 := fun nq => (x0 nq).2.2.2.1
  have y13 := fun nq => (x0 nq).2.2.2.2.1
  have y20 := fun nq => (x0 nq).2.2.2.2.2
  simp only [List.getElem_toArray, List.getElem_cons_zero, List.getElem_cons_succ] at y0 y10 y11 y12 y13 y20
  have HX := Lib.hid hX
  have HST := Lib.hid (fun (m' : Mem) (V' : World) (h : Evo rb m m' W V') => hg.stay h)
  have hWT := Lib.hid hwt
  have HOK := Lib.hid hok
  have hn' : s.left - 1 < n := by omega
  have HLT := Lib.hid (show s.out.length + (s.left - 1) < fuel by omega)
  obtain ⟨out, hout⟩ : ∃ out, bodyP inp (ev inp n) (.mk 8 n0 ks cs) e { s with left := s.left - 1 } = out := ⟨_, rfl⟩
  rw [hout]
  have HO := Lib.hid hout
  unfold frameW at r1 r5 f5 b0 y0 y10 y11 y12 y13 y20 HX
  clear hb hg hg3 hT hin he hr hX x0 hst hok hwt hn h0 hle hbn hout
  have hcl : cs.length = 1 := by
    have h1 := hWT.out.node.2.2.2.1
    simp [Core.k, Core.ks, Core.cs, Core.n, cntB, kidsL] at h1
    omega
  have hp0 : 0 < cs.length := by omega
  have hpi0 : (0 : Int) < (cs.length : Int) := by omega
  clear hcl
  have hn0 : 0 ≤ n0 := by
    have h1 := hWT.out.node.2.2.1
    by_cases hn : 0 ≤ n0 ∧ n0 ≤ 7
    · exact hn.1
    · simp [Core.k, Core.n, numE, hn] at h1
  go_enter Tryd.func26, Tryd.ntmps26
  go_wp2_with fail
  go_quiet (fail)
  go_wp2_with fail
  obtain ⟨gX, eX, tX⟩ := HX.out nq
  have z0 := y0 nq
  have z10 := y10 nq
  have z11 := y11 nq
  have z12 := y12 nq
  have z13 := y13 nq
  have z20 := y20 nq
  clear y0 y10 y11 y12 y13 y20 r1 r5 f5 b0 HX
  generalize (((((W.alloc (.cells #[.pointer (some ⟨rb, 0, none⟩)] 49)).alloc (.cells #[.int .i64 8, .int .i64 n0, .slice Ak ks.length ck, .slice Ac cs.length cc] 26)).alloc (.cells #[.pointer pk] 83)).drewN nq).setCell ⟨rb, 5, none⟩ (.int .i64 (st + 1))) = V at *
  have HKid := Lib.hid (fun (i : Nat) (hi : i < cs.length) (s' : St) (m' : Mem) (V' : World) (hE : Evo rb m m' V V') (hg' : Good rb B inp fuel s' m' V') (hn1 : s'.left < n) => (show Calls Tryd.prog 38 #[.int .i64 (i : Int), .pointer (some ⟨W.heap.size, 0, none⟩), .pointer (some ⟨W.heap.size + 1, 0, none⟩), .pointer (some ⟨W.heap.size + 1 + 1, 0, none⟩)] V' (EvPost rb B inp fuel m' V' (ev inp n cs[i] e s')) from
     kid_term HOK.out hg' (tX.evo gX hE) hWT.out hi hn1))
  have hO1 := HO.out.symm.trans (show _ = Out.andThen (ev inp n cs[0] e { s with left := s.left - 1 }) (fun v s => (match v with | .blk _ l => if n0 < l.length then (.val (l[n0.toNat]?.getD default), s) else (.stuck, s) | _ => (.stuck, s) : Out)) from by simp [bodyP, Core.k, Core.n, Core.cs, hp0]; rfl)
  have C0 := Lib.hid ((HKid.out 0 hp0 _ m V (Evo.refl _ _ _) gX hn').mono fun en V1 h => kidEnds h eX hO1)
  have HO1 := Lib.hid hO1
  clear hO1
  have HS := Lib.hid (fun (V' : World) (m' : Mem) (hE : Evo rb m m' V V') => (show V'.cell? ⟨W.heap.size + 1, 1, none⟩ = some (.int .i64 n0) from at_cell0 (tX.c.evo hE) rfl))
  refine C0.out.mono ?_
  rintro en V1 (⟨v, s2, m2, T, x, hO, rfl, hk1, hg1, hv⟩ | ⟨ch, rfl, _, hP⟩)
  rotate_left
  · exact ⟨rfl, hP⟩
  have zz := HS.out _ _ hk1
  have hO2 := HO1.out
  rw [hO] at hO2
  have hNo := Lib.hid (fun (h : out = (.stuck, s2)) (V2 : World) (h2 : Below V1.heap.size V1 V2) => (show EvPost rb B inp fuel m W out (.panicked (stopV 4)) V2 from by
    rw [h]; exact EvPost.stuck ((eX.trans hk1).trans (Evo.below h2)) (hg1.below h2) (thrown_one _ _)))
  have hE1 := Lib.hid (eX.trans hk1)
  clear HKid C0 gX eX tX hO hk1
  cases v with
  | int i =>
    cases hv
    have HN := Lib.hid (hNo.out hO2)
    clear hO2
    go_wp2_with fail
    go_quiet (fail)
    go_wp2_with (go_at_call 40; refine (stuck_any _).mono ?_; rintro e w' ⟨rfl, rfl⟩)
    exact ⟨rfl, HN.out _ (below_drewN (Below.refl _ _) _)⟩
  | fn i =>
    cases hv
    have HN := Lib.hid (hNo.out hO2)
    clear hO2
    go_wp2_with fail
    go_quiet (fail)
    go_wp2_with (go_at_call 40; refine (stuck_any _).mono ?_; rintro e w' ⟨rfl, rfl⟩)
    exact ⟨rfl, HN.out _ (below_drewN (Below.refl _ _) _)⟩
  | ref i =>
    cases hv
    have HN := Lib.hid (hNo.out hO2)
    clear hO2
    go_wp2_with fail
    go_quiet (fail)
    go_wp2_with (go_at_call 40; refine (stuck_any _).mono ?_; rintro e w' ⟨rfl, rfl⟩)
    exact ⟨rfl, HN.out _ (below_drewN (Below.refl _ _) _)⟩
  | blk tag l =>
    cases hv with
    | @blk _ _ b1 gg cap F hb hgl hgm hl h8 hc hk =>
      have q1 := at_cell0 hb (i := 1) rfl
      simp only [List.getElem_toArray, List.getElem_cons_zero, List.getElem_cons_succ] at q1
      by_cases hlt : n0 < (l.length : Int)
      · have hlt2 : n0.toNat < l.length := by omega
        obtain ⟨T, x, hF⟩ := (hk _ hlt2).shape
        have q2 := hc _ hlt2
        rw [hF] at q2
        have HP := Lib.hid (fun (V2 : World) (h2 : Below V1.heap.size V1 V2) => (show EvPost rb B inp fuel m W out (.returned (.iface T x)) V2 from by
          have he : out = (.val (l[n0.toNat]), s2) := by
            have h1 : out = (if n0 < l.length then (.val (l[n0.toNat]?.getD default), s2) else (.stuck, s2)) := hO2
            rw [if_pos hlt] at h1
            simpa [hlt2] using h1
          rw [he]
          exact EvPost.val (hE1.out.trans (Evo.below h2)) (hg1.below h2) (by rw [← hF]; exact (hk _ hlt2).evo (Evo.below h2))))
        clear hO2 hk hb hc hg1 hF
        generalize l.length = ln at *
        go_wp2_with fail
        go_quiet (fail)
        go_wp2_with fail
        go_quiet (fail)
        go_wp2_with fail
        go_ret
        exact HP.out _ (by first | exact below_drewN (below_drewN (Below.refl _ _) _) _ | exact below_drewN (Below.refl _ _) _)
      · have HN := Lib.hid (hNo.out (by
          have h1 : out = (if n0 < l.length then (.val (l[n0.toNat]?.getD default), s2) else (.stuck, s2)) := hO2
          rwa [if_neg hlt] at h1))
        have hge : (l.length : Int) ≤ n0 := by omega
        clear hO2 hk hb hc hg1
        generalize l.length = ln at *
        go_wp2_with fail
        go_quiet (fail)
        go_wp2_with (go_at_call 40; refine (stuck_any _).mono ?_; rintro e w' ⟨rfl, rfl⟩)
        exact ⟨rfl, HN.out _ (below_drewN (Below.refl _ _) _)⟩
end Go.Proofs.YtnolhcdfknjncaaDoor
