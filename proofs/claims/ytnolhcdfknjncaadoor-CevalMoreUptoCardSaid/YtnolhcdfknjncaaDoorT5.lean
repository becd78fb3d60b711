/-
  The program's evaluator: lets, functions that know one another.
-/
import Derived.Test.YtnolhcdfknjncaaDoorT4
set_option linter.unusedVariables false
set_option linter.unusedSimpArgs false
namespace Go.Proofs.YtnolhcdfknjncaaDoor
open Go.RowKit

set_option maxRecDepth 100000 in
set_option maxHeartbeats 4000000 in
theorem term_let {rb B : Nat} {inp : List Int} {fuel n : Nat} (hok : TermOk rb B inp fuel n) {s : St} {m : Mem} {W : World} (hg : Good rb B inp fuel s m W) {t : Core} {v : Array Value} (hin : CoreIn B W t v) (hwt : WT t) {e : PEnv} {ge : Value} (he : EnvIn rb m W e ge) (hn : s.left < n + 1) (h0 : 0 < s.left) (hk : t.k = 5) :
    Calls Tryd.prog 26 #[.pointer (some ⟨rb, 0, none⟩), .agg v, ge] W (EvPost rb B inp fuel m W (bodyP inp (ev inp n) t e { s with left := s.left - 1 })) := by
  obtain ⟨hb, hg3, hT⟩ := frame_at hg hin he
  have hrbl := hg.mutLt (k := rb) (.inl rfl)
  obtain ⟨k0, n0, ks, cs, Ak, ck, Ac, cc, b, o, G0, G1, G2, G3, rfl, rfl, hks, hck, hcc, hK⟩ := hin.open_
  simp only [Core.k] at hk
  subst hk
  obtain ⟨pk, rfl⟩ := he.shape
  obtain ⟨Ai, ci, hr, _⟩ := hg3.run
  have hfu := hg.fuelB
  have hle := hg.left
  have hbn := hg.bnd
  obtain ⟨st, hst⟩ : ∃ st : Int, st = (fuel : Int) - s.left := ⟨_, rfl⟩
  have hst0 : 0 ≤ st := by omega
  have hst1 : st < (fuel : Int) := by omega
  have hst2 : st ≤ 1000000 := by omega
  have r1 : (frameW W rb #[.int .i64 5, .int .i64 n0, .slice Ak ks.length ck, .slice Ac cs.length cc] (.pointer pk)).cell? ⟨rb, 1, none⟩ = some (.int .i64 fuel) := by simp [World.cell?, hr]
  have r5 : (frameW W rb #[.int .i64 5, .int .i64 n0, .slice Ak ks.length ck, .slice Ac cs.length cc] (.pointer pk)).cell? ⟨rb, 5, none⟩ = some (.int .i64 st) := by simp [World.cell?, hr, hst]
  have f5 : (frameW W rb #[.int .i64 5, .int .i64 n0, .slice Ak ks.length ck, .slice Ac cs.length cc] (.pointer pk)).frozen? ⟨rb, 5, none⟩ = false := by simp [World.frozen?, hr]
  have b0 := at_cell0 hT.r (i := 0) rfl
  simp only [List.getElem_toArray, List.getElem_cons_zero] at b0
  have hX : ∀ nq : Nat, Good rb B inp fuel { s with left := s.left - 1 } m (((frameW W rb #[.int .i64 5, .int .i64 n0, .slice Ak ks.length ck, .slice Ac cs.length cc] (.pointer pk)).drewN nq).setCell ⟨rb, 5, none⟩ (.int .i64 (st + 1))) ∧
      Evo rb m m W (((frameW W rb #[.int .i64 5, .int .i64 n0, .slice Ak ks.length ck, .slice Ac cs.length cc] (.pointer pk)).drewN nq).setCell ⟨rb, 5, none⟩ (.int .i64 (st + 1))) ∧
      TermAt rb B m (((frameW W rb #[.int .i64 5, .int .i64 n0, .slice Ak ks.length ck, .slice Ac cs.length cc] (.pointer pk)).drewN nq).setCell ⟨rb, 5, none⟩ (.int .i64 (st + 1))) (.mk 5 n0 ks cs) #[.int .i64 5, .int .i64 n0, .slice Ak ks.length ck, .slice Ac cs.length cc] e (.pointer pk) W.heap.size := by
    intro nq
    have hkd : Evo rb m m (frameW W rb #[.int .i64 5, .int .i64 n0, .slice Ak ks.length ck, .slice Ac cs.length cc] (.pointer pk)) ((frameW W rb #[.int .i64 5, .int .i64 n0, .slice Ak ks.length ck, .slice Ac cs.length cc] (.pointer pk)).drewN nq) := Evo.below (below_drewN (Below.refl _ _) _)
    obtain ⟨q1, q2⟩ := (hg3.below (below_drewN (Below.refl _ _) nq)).step h0
    rw [← hst] at q1 q2
    exact ⟨q1, ((Evo.below hb).trans hkd).trans q2, hT.evo hg3 (hkd.trans q2)⟩
  have x0 := fun nq => (fun (hx : TermAt rb B m (((frameW W rb #[.int .i64 5, .int .i64 n0, .slice Ak ks.length ck, .slice Ac cs.length cc] (.pointer pk)).drewN nq).setCell ⟨rb, 5, none⟩ (.int .i64 (st + 1))) (.mk 5 n0 ks cs) #[.int .i64 5, .int .i64 n0, .slice Ak ks.length ck, .slice Ac cs.length cc] e (.pointer pk) W.heap.size) =>
    (show _ ∧ _ ∧ _ ∧ _ ∧ _ ∧ _ from ⟨at_cell0 hx.r (i := 0) rfl, at_cell0 hx.c (i := 0) rfl, at_cell0 hx.c (i := 1) rfl, at_cell0 hx.c (i := 2) rfl, at_cell0 hx.c (i := 3) rfl, at_cell0 hx.k (i := 0) rfl⟩)) (hX nq).2.2
  have y0 := fun nq => (x0 nq).1
  have y10 := fun nq => (x0 nq).2.1
  have y11 := fun nq => (x0 nq).2.2.1
  have y12 := fun nq => (x0 nq).2.2.2.1
  have y13 := fun nq => (x0 nq).2.2.2.2.1
  have y20 := fun nq => (x0 nq).2.2.2.2.2
  simp only [List.getElem_toArray, List.getElem_cons_zero, List.getElem_cons_succ] at y0 y10 y11 y12 y13 y20
  have HX := Lib.hid hX
  have HST := Lib.hid (fun (m' : Mem) (V' : World) (h : Evo rb m m' W V') => hg.stay h)
  have hWT := Lib.hid hwt
  have HOK := Lib.hid hok
  have hn' : s.left - 1 < n := by omega
  have HLT := Lib.hid (show s.out.length + (s.left - 1) < fuel by omega)
  obtain ⟨out, hout⟩ : ∃ out, bodyP inp (ev inp n) (.mk 5 n0 ks cs) e { s with left := s.left - 1 } = out := ⟨_, rfl⟩
  rw [hout]
  have HO := Lib.hid hout
  unfold frameW at r1 r5 f5 b0 y0 y10 y11 y12 y13 y20 HX
  clear hb hg hg3 hT hin he hr hX x0 hst hok hwt hn h0 hle hbn hout
  have hcl : cs.length = 2 := by
    have h1 := hWT.out.node.2.2.2.1
    simp [Core.k, Core.ks, Core.cs, Core.n, cntB, kidsL] at h1
    omega
  have hp0 : 0 < cs.length := by omega
  have hpi0 : (0 : Int) < (cs.length : Int) := by omega
  have hp1 : 1 < cs.length := by omega
  have hpi1 : (1 : Int) < (cs.length : Int) := by omega
  obtain ⟨rfl, hbB⟩ := hK.hA (by omega)
  obtain ⟨g0, g1, A2, n2, d2, A3, n3, d3, hsh⟩ := (hK.hsub 1 (by omega)).shape
  have HSH := Lib.hid hsh
  clear hsh
  have HK := Lib.hid hK
  clear hK hcl
  go_enter Tryd.func26, Tryd.ntmps26
  go_wp2_with fail
  go_quiet (fail)
  go_wp2_with fail
  obtain ⟨gX, eX, tX⟩ := HX.out nq
  have z0 := y0 nq
  have z10 := y10 nq
  have z11 := y11 nq
  have z12 := y12 nq
  have z13 := y13 nq
  have z20 := y20 nq
  clear y0 y10 y11 y12 y13 y20 r1 r5 f5 b0 HX
  generalize (((((W.alloc (.cells #[.pointer (some ⟨rb, 0, none⟩)] 49)).alloc (.cells #[.int .i64 5, .int .i64 n0, .slice Ak ks.length ck, .slice (some ⟨b, o, none⟩) cs.length cc] 26)).alloc (.cells #[.pointer pk] 83)).drewN nq).setCell ⟨rb, 5, none⟩ (.int .i64 (st + 1))) = V at *
  have HKid := Lib.hid (fun (i : Nat) (hi : i < cs.length) (s' : St) (m' : Mem) (V' : World) (hE : Evo rb m m' V V') (hg' : Good rb B inp fuel s' m' V') (hn1 : s'.left < n) => (show Calls Tryd.prog 38 #[.int .i64 (i : Int), .pointer (some ⟨W.heap.size, 0, none⟩), .pointer (some ⟨W.heap.size + 1, 0, none⟩), .pointer (some ⟨W.heap.size + 1 + 1, 0, none⟩)] V' (EvPost rb B inp fuel m' V' (ev inp n cs[i] e s')) from
     kid_term HOK.out hg' (tX.evo gX hE) hWT.out hi hn1))
  have HS := Lib.hid (fun (V' : World) (m' : Mem) (hE : Evo rb m m' V V') => (show V'.cell? ⟨W.heap.size, 0, none⟩ = some (.pointer (some ⟨rb, 0, none⟩)) ∧ V'.cell? ⟨W.heap.size + 1, 1, none⟩ = some (.int .i64 n0) ∧ V'.cell? ⟨W.heap.size + 1, 3, none⟩ = some (.slice (some ⟨b, o, none⟩) cs.length cc) ∧ V'.cell? ⟨W.heap.size + 1 + 1, 0, none⟩ = some (.pointer pk) ∧ V'.cell? ⟨b, o + 4, none⟩ = some (.int .i64 g0) ∧ V'.cell? ⟨b, o + 5, none⟩ = some (.int .i64 g1) ∧ V'.cell? ⟨b, o + 6, none⟩ = some (.slice A2 n2 d2) ∧ V'.cell? ⟨b, o + 7, none⟩ = some (.slice A3 n3 d3) from by
    have hst := HST.out _ _ (eX.trans hE)
    have hsh := HSH.out
    simp only [Array.mk.injEq, List.cons.injEq, and_true] at hsh
    obtain ⟨s0, s1, s2, s3⟩ := hsh
    refine ⟨at_cell0 (tX.r.evo hE) rfl, at_cell0 (tX.c.evo hE) rfl, at_cell0 (tX.c.evo hE) rfl, at_cell0 (tX.k.evo hE) rfl, ?_, ?_, ?_, ?_⟩
    · have := hst _ _ _ hbB (HK.out.c0 1 (by omega)); rw [s0] at this; simpa [Nat.add_assoc] using this
    · have := hst _ _ _ hbB (HK.out.c1 1 (by omega)); rw [s1] at this; simpa [Nat.add_assoc] using this
    · have := hst _ _ _ hbB (HK.out.c2 1 (by omega)); rw [s2] at this; simpa [Nat.add_assoc] using this
    · have := hst _ _ _ hbB (HK.out.c3 1 (by omega)); rw [s3] at this; simpa [Nat.add_assoc] using this))
  have hd : Evo rb m m V V.drew := (Evo.refl _ _ _).drew
  have hO1 := HO.out.symm.trans (show _ = Out.andThen (ev inp n cs[0] e { s with left := s.left - 1 }) (fun v s => ev inp n cs[1] ((n0, v) :: e) s) from by simp [bodyP, Core.k, Core.n, Core.cs, hp0, hp1])
  have C0 := Lib.hid (show Calls Tryd.prog 38 #[.int .i64 0, .pointer (some ⟨W.heap.size, 0, none⟩), .pointer (some ⟨W.heap.size + 1, 0, none⟩), .pointer (some ⟨W.heap.size + 1 + 1, 0, none⟩)] V.drew (KidEnds rb B inp fuel (ev inp n cs[0] e { s with left := s.left - 1 }) m V.drew m W out) from
    (HKid.out 0 hp0 _ m V.drew hd (gX.below (Below.refl _ _).drew) hn').mono fun en V1 h => kidEnds h (eX.trans hd) hO1)
  have hle := (ev_le inp n cs[0] e { s with left := s.left - 1 }).left
  have CT := Lib.hid (fun (v : PV) (s2 : St) (m2 : Mem) (V2 : World) (T : TypeId) (x : Value) (ho : ev inp n cs[0] e { s with left := s.left - 1 } = (.val v, s2)) (hk : Evo rb m m2 V.drew V2) (hg2 : Good rb B inp fuel s2 m2 V2) (hv : RepV rb m2 V2 v (.iface T x)) =>
    (show Calls Tryd.prog 26 #[.pointer (some ⟨rb, 0, none⟩), .agg #[.int .i64 g0, .int .i64 g1, .slice A2 n2 d2, .slice A3 n3 d3], .pointer (some ⟨V2.heap.size, 0, none⟩)] (V2.alloc (.cells #[.int .i64 n0, .iface T x, .pointer pk] 93)) (LastEnds rb B inp fuel m2 (V2.alloc (.cells #[.int .i64 n0, .iface T x, .pointer pk] 93)) m W out) from by
      have ha : Evo rb m2 m2 V2 (V2.alloc (.cells #[.int .i64 n0, .iface T x, .pointer pk] 93)) := Evo.alloc _ _ _ _
      have hga := hg2.below ((Below.refl _ _).alloc (Nat.le_refl _) (.cells #[.int .i64 n0, .iface T x, .pointer pk] 93))
      have hE := ((eX.trans hd).trans hk).trans ha
      have henv : EnvIn rb m2 (V2.alloc (.cells #[.int .i64 n0, .iface T x, .pointer pk] 93)) ((n0, v) :: e) (.pointer (some ⟨V2.heap.size, 0, none⟩)) := .cons (at_new (fun k hk => hg2.apartLt hk) _ _) (hv.evo ha) (tX.env.evo ((hd.trans hk).trans ha))
      have hc : CoreIn B (V2.alloc (.cells #[.int .i64 n0, .iface T x, .pointer pk] 93)) cs[1] #[.int .i64 g0, .int .i64 g1, .slice A2 n2 d2, .slice A3 n3 d3] := by
        rw [← HSH.out]; exact (HK.out.hsub 1 hp1).stay (HST.out _ _ hE)
      rw [ho] at hle hO1
      refine (HOK.out cs[1] ((n0, v) :: e) s2 m2 _ _ _ hc (hWT.out.kid (List.getElem_mem hp1)) henv hga (Nat.lt_of_le_of_lt hle hn')).mono fun en V4 h => ?_
      have he : out = ev inp n cs[1] ((n0, v) :: e) s2 := hO1
      rw [he]
      exact lastEnds h hE))
  have hd' := Lib.hid hd
  clear hO1 gX eX tX hd hbB hle HKid
  go_region_held2 (fun V' => V'.cell? ⟨W.heap.size, 0, none⟩ = some (.pointer (some ⟨rb, 0, none⟩)) ∧ V'.cell? ⟨W.heap.size + 1, 1, none⟩ = some (.int .i64 n0) ∧ V'.cell? ⟨W.heap.size + 1, 3, none⟩ = some (.slice (some ⟨b, o, none⟩) cs.length cc) ∧ V'.cell? ⟨W.heap.size + 1 + 1, 0, none⟩ = some (.pointer pk) ∧ V'.cell? ⟨b, o + 4, none⟩ = some (.int .i64 g0) ∧ V'.cell? ⟨b, o + 5, none⟩ = some (.int .i64 g1) ∧ V'.cell? ⟨b, o + 6, none⟩ = some (.slice A2 n2 d2) ∧ V'.cell? ⟨b, o + 7, none⟩ = some (.slice A3 n3 d3))
    (first | exact HS.out _ _ hd'.out | exact HS.out _ _ (hd'.out.trans hk3) | exact HS.out _ _ ((hd'.out.trans hk3).trans (Evo.alloc _ _ _ _)) | exact HS.out _ _ (((hd'.out.trans hk3).trans (Evo.alloc _ _ _ _)).trans hk4))
    ((first
      | (go_at_call 38; refine C0.out.mono ?_; rintro en w' (⟨a, s3, m3, Ta, xa, hO1, rfl, hk3, hg3, ha⟩ | ⟨ch, rfl, _, hP⟩); rotate_left; exact ⟨rfl, hP⟩)
      | (go_at_call 26; refine (CT.out a s3 m3 _ Ta xa hO1 hk3 hg3 ha).mono ?_; rintro en w' ⟨⟨g, rfl⟩ | ⟨ch, rfl⟩, ⟨m4, hk4⟩, hP⟩; rotate_left; exact ⟨rfl, hP⟩)))
  all_goals (go_wp2_with fail; go_ret; exact hP)

set_option maxRecDepth 100000 in
set_option maxHeartbeats 4000000 in
theorem term_fix {rb B : Nat} {inp : List Int} {fuel n : Nat} (hok : TermOk rb B inp fuel n) {s : St} {m : Mem} {W : World} (hg : Good rb B inp fuel s m W) {t : Core} {v : Array Value} (hin : CoreIn B W t v) (hwt : WT t) {e : PEnv} {ge : Value} (he : EnvIn rb m W e ge) (hn : s.left < n + 1) (h0 : 0 < s.left) (hk : t.k = 6) :
    Calls Tryd.prog 26 #[.pointer (some ⟨rb, 0, none⟩), .agg v, ge] W (EvPost rb B inp fuel m W (bodyP inp (ev inp n) t e { s with left := s.left - 1 })) := by
  obtain ⟨hb, hg3, hT⟩ := frame_at hg hin he
  have hrbl := hg.mutLt (k := rb) (.inl rfl)
  obtain ⟨k0, n0, ks, cs, Ak, ck, Ac, cc, b, o, G0, G1, G2, G3, rfl, rfl, hks, hck, hcc, hK⟩ := hin.open_
  simp only [Core.k] at hk
  subst hk
  obtain ⟨pk, rfl⟩ := he.shape
  obtain ⟨Ai, ci, hr, _⟩ := hg3.run
  have hfu := hg.fuelB
  have hle := hg.left
  have hbn := hg.bnd
  obtain ⟨st, hst⟩ : ∃ st : Int, st = (fuel : Int) - s.left := ⟨_, rfl⟩
  have hst0 : 0 ≤ st := by omega
  have hst1 : st < (fuel : Int) := by omega
  have hst2 : st ≤ 1000000 := by omega
  have r1 : (frameW W rb #[.int .i64 6, .int .i64 n0, .slice Ak ks.length ck, .slice Ac cs.length cc] (.pointer pk)).cell? ⟨rb, 1, none⟩ = some (.int .i64 fuel) := by simp [World.cell?, hr]
  have r5 : (frameW W rb #[.int .i64 6, .int .i64 n0, .slice Ak ks.length ck, .slice Ac cs.length cc] (.pointer pk)).cell? ⟨rb, 5, none⟩ = some (.int .i64 st) := by simp [World.cell?, hr, hst]
  have f5 : (frameW W rb #[.int .i64 6, .int .i64 n0, .slice Ak ks.length ck, .slice Ac cs.length cc] (.pointer pk)).frozen? ⟨rb, 5, none⟩ = false := by simp [World.frozen?, hr]
  have b0 := at_cell0 hT.r (i := 0) rfl
  simp only [List.getElem_toArray, List.getElem_cons_zero] at b0
  have hX : ∀ nq : Nat, Good rb B inp fuel { s with left := s.left - 1 } m (((frameW W rb #[.int .i64 6, .int .i64 n0, .slice Ak ks.length ck, .slice Ac cs.length cc] (.pointer pk)).drewN nq).setCell ⟨rb, 5, none⟩ (.int .i64 (st + 1))) ∧
      Evo rb m m W (((frameW W rb #[.int .i64 6, .int .i64 n0, .slice Ak ks.length ck, .slice Ac cs.length cc] (.pointer pk)).drewN nq).setCell ⟨rb, 5, none⟩ (.int .i64 (st + 1))) ∧
      TermAt rb B m (((frameW W rb #[.int .i64 6, .int .i64 n0, .slice Ak ks.length ck, .slice Ac cs.length cc] (.pointer pk)).drewN nq).setCell ⟨rb, 5, none⟩ (.int .i64 (st + 1))) (.mk 6 n0 ks cs) #[.int .i64 6, .int .i64 n0, .slice Ak ks.length ck, .slice Ac cs.length cc] e (.pointer pk) W.heap.size := by
    intro nq
    have hkd : Evo rb m m (frameW W rb #[.int .i64 6, .int .i64 n0, .slice Ak ks.length ck, .slice Ac cs.length cc] (.pointer pk)) ((frameW W rb #[.int .i64 6, .int .i64 n0, .slice Ak ks.length ck, .slice Ac cs.length cc] (.pointer pk)).drewN nq) := Evo.below (below_drewN (Below.refl _ _) _)
    obtain ⟨q1, q2⟩ := (hg3.below (below_drewN (Below.refl _ _) nq)).step h0
    rw [← hst] at q1 q2
    exact ⟨q1, ((Evo.below hb).trans hkd).trans q2, hT.evo hg3 (hkd.trans q2)⟩
  have x0 := fun nq => (fun (hx : TermAt rb B m (((frameW W rb #[.int .i64 6, .int .i64 n0, .slice Ak ks.length ck, .slice Ac cs.length cc] (.pointer pk)).drewN nq).setCell ⟨rb, 5, none⟩ (.int .i64 (st + 1))) (.mk 6 n0 ks cs) #[.int .i64 6, .int .i64 n0, .slice Ak ks.length ck, .slice Ac cs.length cc] e (.pointer pk) W.heap.size) =>
    (show _ ∧ _ ∧ _ ∧ _ ∧ _ ∧ _ from ⟨at_cell0 hx.r (i := 0) rfl, at_cell0 hx.c (i := 0) rfl, at_cell0 hx.c (i := 1) rfl, at_cell0 hx.c (i := 2) rfl, at_cell0 hx.c (i := 3) rfl, at_cell0 hx.k (i := 0) rfl⟩)) (hX nq).2.2
  have y0 := fun nq => (x0 nq).1
  have y10 := fun nq => (x0 nq).2.1
  have y11 := fun nq => (x0 nq).2.2.1
  have y12 := fun nq => (x0 nq).2.2.2.1
  have y13 := fun nq => (x0 nq).2.2.2.2.1
  have y20 := fun nq => (x0 nq).2.2.2.2.2
  simp only [List.getElem_toArray, List.getElem_cons_zero, List.getElem_cons_succ] at y0 y10 y11 y12 y13 y20
  have HX := Lib.hid hX
  have HST := Lib.hid (fun (m' : Mem) (V' : World) (h : Evo rb m m' W V') => hg.stay h)
  have hWT := Lib.hid hwt
  have HOK := Lib.hid hok
  have hn' : s.left - 1 < n := by omega
  have HLT := Lib.hid (show s.out.length + (s.left - 1) < fuel by omega)
  obtain ⟨out, hout⟩ : ∃ out, bodyP inp (ev inp n) (.mk 6 n0 ks cs) e { s with left := s.left - 1 } = out := ⟨_, rfl⟩
  rw [hout]
  have HO := Lib.hid hout
  unfold frameW at r1 r5 f5 b0 y0 y10 y11 y12 y13 y20 HX
  clear hb hg hg3 hT hin he hr hX x0 hst hok hwt hn h0 hle hbn hout
  have hcl : 1 ≤ cs.length := by
    have h1 := hWT.out.node.2.2.2.1
    simp only [Core.k, Core.ks, Core.cs, Core.n, cntB, if_true] at h1
    have h1 := of_decide_eq_true h1
    omega
  have hc64 := hK.hcl
  obtain ⟨L, hL⟩ : ∃ L, cs.length = L + 1 := ⟨cs.length - 1, by omega⟩
  have hwL : IntKind.i64.wrap ((cs.length : Int) - 1) = (L : Int) := by rw [IntKind.wrap_i64]; omega
  have hL0 : (0 : Int) ≤ (L : Int) := by omega
  have hL1 : (L : Int) < (cs.length : Int) := by omega
  have hL2 : L < cs.length := by omega
  have HLL := Lib.hid hL
  clear hL hc64
  obtain ⟨rfl, hbB⟩ := hK.hA (by omega)
  obtain ⟨g0, g1, A2, n2, d2, A3, n3, d3, hsh⟩ := (hK.hsub L (by omega)).shape
  have HSH := Lib.hid hsh
  clear hsh
  have HK := Lib.hid hK
  clear hK hcl
  go_enter Tryd.func26, Tryd.ntmps26
  go_wp2_with fail
  go_quiet (fail)
  go_wp2_with fail
  obtain ⟨gX, eX, tX⟩ := HX.out nq
  have z0 := y0 nq
  have z10 := y10 nq
  have z11 := y11 nq
  have z12 := y12 nq
  have z13 := y13 nq
  have z20 := y20 nq
  clear y0 y10 y11 y12 y13 y20 r1 r5 f5 b0 HX
  generalize (((((W.alloc (.cells #[.pointer (some ⟨rb, 0, none⟩)] 49)).alloc (.cells #[.int .i64 6, .int .i64 n0, .slice Ak ks.length ck, .slice (some ⟨b, o, none⟩) cs.length cc] 26)).alloc (.cells #[.pointer pk] 83)).drewN nq).setCell ⟨rb, 5, none⟩ (.int .i64 (st + 1))) = V at *
  have HS := Lib.hid (fun (V' : World) (m' : Mem) (hE : Evo rb m m' V V') => (show V'.cell? ⟨W.heap.size, 0, none⟩ = some (.pointer (some ⟨rb, 0, none⟩)) ∧ V'.cell? ⟨W.heap.size + 1, 0, none⟩ = some (.int .i64 6) ∧ V'.cell? ⟨W.heap.size + 1, 1, none⟩ = some (.int .i64 n0) ∧ V'.cell? ⟨W.heap.size + 1, 2, none⟩ = some (.slice Ak ks.length ck) ∧ V'.cell? ⟨W.heap.size + 1, 3, none⟩ = some (.slice (some ⟨b, o, none⟩) cs.length cc) ∧ V'.cell? ⟨W.heap.size + 1 + 1, 0, none⟩ = some (.pointer pk) ∧ V'.cell? ⟨b, o + L * 4, none⟩ = some (.int .i64 g0) ∧ V'.cell? ⟨b, o + L * 4 + 1, none⟩ = some (.int .i64 g1) ∧ V'.cell? ⟨b, o + L * 4 + 2, none⟩ = some (.slice A2 n2 d2) ∧ V'.cell? ⟨b, o + L * 4 + 3, none⟩ = some (.slice A3 n3 d3) from by
    have hst := HST.out _ _ (eX.trans hE)
    have hsh := HSH.out
    simp only [Array.mk.injEq, List.cons.injEq, and_true] at hsh
    obtain ⟨s0, s1, s2, s3⟩ := hsh
    refine ⟨at_cell0 (tX.r.evo hE) rfl, at_cell0 (tX.c.evo hE) rfl, at_cell0 (tX.c.evo hE) rfl, at_cell0 (tX.c.evo hE) rfl, at_cell0 (tX.c.evo hE) rfl, at_cell0 (tX.k.evo hE) rfl, ?_, ?_, ?_, ?_⟩
    · rw [← s0]; exact hst _ _ _ hbB (HK.out.c0 L hL2)
    · rw [← s1]; exact hst _ _ _ hbB (HK.out.c1 L hL2)
    · rw [← s2]; exact hst _ _ _ hbB (HK.out.c2 L hL2)
    · rw [← s3]; exact hst _ _ _ hbB (HK.out.c3 L hL2)))
  have hd : Evo rb m m V V.drew := (Evo.refl _ _ _).drew
  have hO1 := HO.out.symm.trans (show _ = ev inp n cs[L] (fixEnv ks s.fns.length e) { s with left := s.left - 1, fns := s.fns ++ fixFns (fixEnv ks s.fns.length e) ks cs } from by
    have h1 : cs.length - 1 = L := by have := HLL.out; omega
    simp [bodyP, Core.k, Core.n, Core.cs, Core.ks, h1, hL2])
  have CF := Lib.hid (fixed_any (gX.below (Below.refl _ _).drew) (tX.core.stay (gX.stay hd)) hWT.out rfl (tX.env.evo hd))
  have CT := Lib.hid (fun (m2 : Mem) (V2 : World) (gp : Option Addr) (hg2 : Good rb B inp fuel { s with left := s.left - 1, fns := s.fns ++ fixFns (fixEnv ks s.fns.length e) ks cs } m2 V2) (hk : Evo rb m m2 V.drew V2) (he : EnvIn rb m2 V2 (fixEnv ks s.fns.length e) (.pointer gp)) =>
    (show Calls Tryd.prog 26 #[.pointer (some ⟨rb, 0, none⟩), .agg #[.int .i64 g0, .int .i64 g1, .slice A2 n2 d2, .slice A3 n3 d3], .pointer gp] V2 (LastEnds rb B inp fuel m2 V2 m W out) from by
      have hE := (eX.trans hd).trans hk
      have hc : CoreIn B V2 cs[L] #[.int .i64 g0, .int .i64 g1, .slice A2 n2 d2, .slice A3 n3 d3] := by
        rw [← HSH.out]; exact (HK.out.hsub L hL2).stay (HST.out _ _ hE)
      refine (HOK.out cs[L] _ _ m2 _ _ _ hc (hWT.out.kid (List.getElem_mem hL2)) he hg2 hn').mono fun en V4 h => ?_
      rw [hO1]
      exact lastEnds h hE))
  have hd' := Lib.hid hd
  clear hO1 gX eX tX hd hbB
  go_region_held2 (fun V' => V'.cell? ⟨W.heap.size, 0, none⟩ = some (.pointer (some ⟨rb, 0, none⟩)) ∧ V'.cell? ⟨W.heap.size + 1, 0, none⟩ = some (.int .i64 6) ∧ V'.cell? ⟨W.heap.size + 1, 1, none⟩ = some (.int .i64 n0) ∧ V'.cell? ⟨W.heap.size + 1, 2, none⟩ = some (.slice Ak ks.length ck) ∧ V'.cell? ⟨W.heap.size + 1, 3, none⟩ = some (.slice (some ⟨b, o, none⟩) cs.length cc) ∧ V'.cell? ⟨W.heap.size + 1 + 1, 0, none⟩ = some (.pointer pk) ∧ V'.cell? ⟨b, o + L * 4, none⟩ = some (.int .i64 g0) ∧ V'.cell? ⟨b, o + L * 4 + 1, none⟩ = some (.int .i64 g1) ∧ V'.cell? ⟨b, o + L * 4 + 2, none⟩ = some (.slice A2 n2 d2) ∧ V'.cell? ⟨b, o + L * 4 + 3, none⟩ = some (.slice A3 n3 d3))
    (first | exact HS.out _ _ hd'.out | exact HS.out _ _ (hd'.out.trans hk3) | exact HS.out _ _ ((hd'.out.trans hk3).trans hk4))
    ((first
      | (go_at_call 42; refine CF.out.mono ?_; rintro en w' ⟨m3, gp, rfl, hg3, hk3, he3⟩)
      | (go_at_call 26; refine (CT.out m3 _ gp hg3 hk3 he3).mono ?_; rintro en w' ⟨⟨g, rfl⟩ | ⟨ch, rfl⟩, ⟨m4, hk4⟩, hP⟩; rotate_left; exact ⟨rfl, hP⟩)))
  all_goals (go_wp2_with fail; go_ret; exact hP)
end Go.Proofs.YtnolhcdfknjncaaDoor
