/-
  The program's evaluator: calls and lets.
-/
import Derived.Test.YtnolhcdfknjncaaDoorT3
set_option linter.unusedVariables false
set_option linter.unusedSimpArgs false
namespace Go.Proofs.YtnolhcdfknjncaaDoor
open Go.RowKit

/-- how a Kid's evaluation ends: with a value, or as the whole does -/
def KidEnds (rb B : Nat) (inp : List Int) (fuel : Nat) (o : Out) (m' : Mem) (V' : World) (m : Mem) (W : World) (out : Out) (en : Ending) (V : World) : Prop :=
  (∃ v s' m2 T x, o = (.val v, s') ∧ en = .returned (.iface T x) ∧ Evo rb m' m2 V' V ∧ Good rb B inp fuel s' m2 V ∧ RepV rb m2 V v (.iface T x)) ∨ (∃ ch, en = .panicked ch ∧ (∃ m2, Evo rb m' m2 V' V) ∧ EvPost rb B inp fuel m W out (.panicked ch) V)
theorem kidEnds {rb B : Nat} {inp : List Int} {fuel : Nat} {o : Out} {m' : Mem} {V' : World} {m : Mem} {W : World} {out : Out} {en : Ending} {V : World} (h : EvPost rb B inp fuel m' V' o en V) (hE : Evo rb m m' W V') {F : PV → St → Out} (hout : out = Out.andThen o F) : KidEnds rb B inp fuel o m' V' m W out en V := by
  obtain ⟨mE, hEV⟩ := h.evo
  rcases h.inv with ⟨v, s', m2, T, x, h1, h2, h3, h4, h5⟩ | ⟨ch, h1, _, _, h4⟩
  · exact .inl ⟨v, s', m2, T, x, h1, h2, h3, h4, h5⟩
  · exact .inr ⟨ch, h1, ⟨mE, hEV⟩, hout ▸ (h4 F).from_ hE⟩
/-- how the last call ends -/
def LastEnds (rb B : Nat) (inp : List Int) (fuel : Nat) (m' : Mem) (V' : World) (m : Mem) (W : World) (out : Out) (en : Ending) (V : World) : Prop :=
  ((∃ g, en = .returned g) ∨ (∃ ch, en = .panicked ch)) ∧ (∃ m2, Evo rb m' m2 V' V) ∧ EvPost rb B inp fuel m W out en V
theorem lastEnds {rb B : Nat} {inp : List Int} {fuel : Nat} {m' : Mem} {V' : World} {m : Mem} {W : World} {out : Out} {en : Ending} {V : World} (h : EvPost rb B inp fuel m' V' out en V) (hE : Evo rb m m' W V') : LastEnds rb B inp fuel m' V' m W out en V := by
  obtain ⟨mE, hEV⟩ := h.evo
  refine ⟨?_, ⟨mE, hEV⟩, h.from_ hE⟩
  rcases h.ends with ⟨g, h1, _⟩ | ⟨ch, h1, _⟩
  · exact .inl ⟨g, h1⟩
  · exact .inr ⟨ch, h1⟩

set_option maxRecDepth 100000 in
set_option maxHeartbeats 4000000 in
theorem term_app {rb B : Nat} {inp : List Int} {fuel n : Nat} (hok : TermOk rb B inp fuel n) {s : St} {m : Mem} {W : World} (hg : Good rb B inp fuel s m W) {t : Core} {v : Array Value} (hin : CoreIn B W t v) (hwt : WT t) {e : PEnv} {ge : Value} (he : EnvIn rb m W e ge) (hn : s.left < n + 1) (h0 : 0 < s.left) (hk : t.k = 4) :
    Calls Tryd.prog 26 #[.pointer (some ⟨rb, 0, none⟩), .agg v, ge] W (EvPost rb B inp fuel m W (bodyP inp (ev inp n) t e { s with left := s.left - 1 })) := by
  obtain ⟨hb, hg3, hT⟩ := frame_at hg hin he
  have hrbl := hg.mutLt (k := rb) (.inl rfl)
  obtain ⟨k0, n0, ks, cs, Ak, ck, Ac, cc, b, o, G0, G1, G2, G3, rfl, rfl, hks, hck, hcc, hK⟩ := hin.open_
  simp only [Core.k] at hk
  subst hk
  obtain ⟨pk, rfl⟩ := he.shape
  obtain ⟨Ai, ci, hr, _⟩ := hg3.run
  have hfu := hg.fuelB
  have hle := hg.left
  have hbn := hg.bnd
  obtain ⟨st, hst⟩ : ∃ st : Int, st = (fuel : Int) - s.left := ⟨_, rfl⟩
  have hst0 : 0 ≤ st := by omega
  have hst1 : st < (fuel : Int) := by omega
  have hst2 : st ≤ 1000000 := by omega
  have r1 : (frameW W rb #[.int .i64 4, .int .i64 n0, .slice Ak ks.length ck, .slice Ac cs.length cc] (.pointer pk)).cell? ⟨rb, 1, none⟩ = some (.int .i64 fuel) := by simp [World.cell?, hr]
  have r5 : (frameW W rb #[.int .i64 4, .int .i64 n0, .slice Ak ks.length ck, .slice Ac cs.length cc] (.pointer pk)).cell? ⟨rb, 5, none⟩ = some (.int .i64 st) := by simp [World.cell?, hr, hst]
  have f5 : (frameW W rb #[.int .i64 4, .int .i64 n0, .slice Ak ks.length ck, .slice Ac cs.length cc] (.pointer pk)).frozen? ⟨rb, 5, none⟩ = false := by simp [World.frozen?, hr]
  have b0 := at_cell0 hT.r (i := 0) rfl
  simp only [List.getElem_toArray, List.getElem_cons_zero] at b0
  have hX : ∀ nq : Nat, Good rb B inp fuel { s with left := s.left - 1 } m (((frameW W rb #[.int .i64 4, .int .i64 n0, .slice Ak ks.length ck, .slice Ac cs.length cc] (.pointer pk)).drewN nq).setCell ⟨rb, 5, none⟩ (.int .i64 (st + 1))) ∧
      Evo rb m m W (((frameW W rb #[.int .i64 4, .int .i64 n0, .slice Ak ks.length ck, .slice Ac cs.length cc] (.pointer pk)).drewN nq).setCell ⟨rb, 5, none⟩ (.int .i64 (st + 1))) ∧
      TermAt rb B m (((frameW W rb #[.int .i64 4, .int .i64 n0, .slice Ak ks.length ck, .slice Ac cs.length cc] (.pointer pk)).drewN nq).setCell ⟨rb, 5, none⟩ (.int .i64 (st + 1))) (.mk 4 n0 ks cs) #[.int .i64 4, .int .i64 n0, .slice Ak ks.length ck, .slice Ac cs.length cc] e (.pointer pk) W.heap.size := by
    intro nq
    have hkd : Evo rb m m (frameW W rb #[.int .i64 4, .int .i64 n0, .slice Ak ks.length ck, .slice Ac cs.length cc] (.pointer pk)) ((frameW W rb #[.int .i64 4, .int .i64 n0, .slice Ak ks.length ck, .slice Ac cs.length cc] (.pointer pk)).drewN nq) := Evo.below (below_drewN (Below.refl _ _) _)
    obtain ⟨q1, q2⟩ := (hg3.below (below_drewN (Below.refl _ _) nq)).step h0
    rw [← hst] at q1 q2
    exact ⟨q1, ((Evo.below hb).trans hkd).trans q2, hT.evo hg3 (hkd.trans q2)⟩
  have x0 := fun nq => (fun (hx : TermAt rb B m (((frameW W rb #[.int .i64 4, .int .i64 n0, .slice Ak ks.length ck, .slice Ac cs.length cc] (.pointer pk)).drewN nq).setCell ⟨rb, 5, none⟩ (.int .i64 (st + 1))) (.mk 4 n0 ks cs) #[.int .i64 4, .int .i64 n0, .slice Ak ks.length ck, .slice Ac cs.length cc] e (.pointer pk) W.heap.size) =>
    (show _ ∧ _ ∧ _ ∧ _ ∧ _ ∧ _ from ⟨at_cell0 hx.r (i := 0) rfl, at_cell0 hx.c (i := 0) rfl, at_cell0 hx.c (i := 1) rfl, at_cell0 hx.c (i := 2) rfl, at_cell0 hx.c (i := 3) rfl, at_cell0 hx.k (i := 0) rfl⟩)) (hX nq).2.2
  have y0 := fun nq => (x0 nq).1
  have y10 := fun nq => (x0 nq).2.1
  have y11 := fun nq => (x0 nq).2.2.1
  have y12 := fun nq => (x0 nq).2.2.2.1
  have y13 := fun nq => (x0 nq).2.2.2.2.1
  have y20 := fun nq => (x0 nq).2.2.2.2.2
  simp only [List.getElem_toArray, List.getElem_cons_zero, List.getElem_cons_succ] at y0 y10 y11 y12 y13 y20
  have HX := Lib.hid hX
  have HST := Lib.hid (fun (m' : Mem) (V' : World) (h : Evo rb m m' W V') => hg.stay h)
  have hWT := Lib.hid hwt
  have HOK := Lib.hid hok
  have hn' : s.left - 1 < n := by omega
  have HLT := Lib.hid (show s.out.length + (s.left - 1) < fuel by omega)
  obtain ⟨out, hout⟩ : ∃ out, bodyP inp (ev inp n) (.mk 4 n0 ks cs) e { s with left := s.left - 1 } = out := ⟨_, rfl⟩
  rw [hout]
  have HO := Lib.hid hout
  unfold frameW at r1 r5 f5 b0 y0 y10 y11 y12 y13 y20 HX
  clear hb hg hg3 hT hin he hr hX x0 hst hok hwt hn h0 hle hbn hout
  have hcl : cs.length = 2 := by
    have h1 := hWT.out.node.2.2.2.1
    simp [Core.k, Core.ks, Core.cs, Core.n, cntB, kidsL] at h1
    omega
  have hp0 : 0 < cs.length := by omega
  have hpi0 : (0 : Int) < (cs.length : Int) := by omega
  have hp1 : 1 < cs.length := by omega
  have hpi1 : (1 : Int) < (cs.length : Int) := by omega
  clear hcl
  go_enter Tryd.func26, Tryd.ntmps26
  go_wp2_with fail
  go_quiet (fail)
  go_wp2_with fail
  obtain ⟨gX, eX, tX⟩ := HX.out nq
  have z0 := y0 nq
  have z10 := y10 nq
  have z11 := y11 nq
  have z12 := y12 nq
  have z13 := y13 nq
  have z20 := y20 nq
  clear y0 y10 y11 y12 y13 y20 r1 r5 f5 b0 HX
  generalize (((((W.alloc (.cells #[.pointer (some ⟨rb, 0, none⟩)] 49)).alloc (.cells #[.int .i64 4, .int .i64 n0, .slice Ak ks.length ck, .slice Ac cs.length cc] 26)).alloc (.cells #[.pointer pk] 83)).drewN nq).setCell ⟨rb, 5, none⟩ (.int .i64 (st + 1))) = V at *
  have HKid := Lib.hid (fun (i : Nat) (hi : i < cs.length) (s' : St) (m' : Mem) (V' : World) (hE : Evo rb m m' V V') (hg' : Good rb B inp fuel s' m' V') (hn1 : s'.left < n) => (show Calls Tryd.prog 38 #[.int .i64 (i : Int), .pointer (some ⟨W.heap.size, 0, none⟩), .pointer (some ⟨W.heap.size + 1, 0, none⟩), .pointer (some ⟨W.heap.size + 1 + 1, 0, none⟩)] V' (EvPost rb B inp fuel m' V' (ev inp n cs[i] e s')) from
     kid_term HOK.out hg' (tX.evo gX hE) hWT.out hi hn1))
  have hd : Evo rb m m V V.drew := (Evo.refl _ _ _).drew
  have hO1 := HO.out.symm.trans (show _ = Out.andThen (ev inp n cs[0] e { s with left := s.left - 1 }) (fun f s => Out.andThen (ev inp n cs[1] e s) fun a s => callP (ev inp n) f a s) from by simp [bodyP, Core.k, Core.n, Core.cs, hp0, hp1])
  have C0 := Lib.hid ((HKid.out 0 hp0 _ m V (Evo.refl _ _ _) gX hn').mono fun en V1 h => kidEnds h eX hO1)
  have HO1 := Lib.hid hO1
  clear hO1
  have hle := (ev_le inp n cs[0] e { s with left := s.left - 1 }).left
  have HS := Lib.hid (fun (V' : World) (m' : Mem) (hE : Evo rb m m' V V') => (show V'.cell? ⟨W.heap.size, 0, none⟩ = some (.pointer (some ⟨rb, 0, none⟩)) from at_cell0 (tX.r.evo hE) rfl))
  refine C0.out.mono ?_
  rintro en V1 (⟨f, s2, m2, Tf, xf, hO, rfl, hk1, hg1, hf⟩ | ⟨ch, rfl, _, hP⟩)
  rotate_left
  · exact ⟨rfl, hP⟩
  rw [hO] at hle
  have hO2 := HO1.out
  rw [hO] at hO2
  replace hO2 : out = Out.andThen (ev inp n cs[1] e s2) (fun a s => callP (ev inp n) f a s) := hO2
  have hd1 : Evo rb m2 m2 V1 V1.drew := (Evo.refl _ _ _).drew
  have hE1 : Evo rb m m2 V V1.drew := hk1.trans hd1
  have C1 := Lib.hid (show Calls Tryd.prog 38 #[.int .i64 1, .pointer (some ⟨W.heap.size, 0, none⟩), .pointer (some ⟨W.heap.size + 1, 0, none⟩), .pointer (some ⟨W.heap.size + 1 + 1, 0, none⟩)] V1.drew (KidEnds rb B inp fuel (ev inp n cs[1] e s2) m2 V1.drew m W out) from (HKid.out 1 hp1 s2 m2 V1.drew hE1 (hg1.below (Below.refl _ _).drew) (Nat.lt_of_le_of_lt hle hn')).mono fun en V1 h => kidEnds h (eX.trans hE1) hO2)
  have hle2 := (ev_le inp n cs[1] e s2).left
  have CC := Lib.hid (fun (a : PV) (s3 : St) (m3 : Mem) (V3 : World) (Ta : TypeId) (xa : Value) (ho : ev inp n cs[1] e s2 = (.val a, s3)) (hk : Evo rb m2 m3 V1.drew V3) (hg3 : Good rb B inp fuel s3 m3 V3) (ha : RepV rb m3 V3 a (.iface Ta xa)) =>
    (call_any HOK.out f a s3 m3 V3 _ _ ((hf.evo hd1).evo hk) ha hg3 (by rw [ho] at hle2; exact Nat.lt_of_le_of_lt (Nat.le_trans hle2 hle) hn')).mono fun en V4 h => (show LastEnds rb B inp fuel m3 V3 m W out en V4 from by
      rw [ho] at hO2
      have he : out = callP (ev inp n) f a s3 := hO2
      rw [he]
      exact lastEnds h ((eX.trans hE1).trans hk)))
  have hE1 := Lib.hid hE1
  clear hle hle2 hO hO2 hf hg1 gX eX tX hd hd1 C0 HKid hk1
  go_wp2_with fail
  go_region_held2 (fun V' => V'.cell? ⟨W.heap.size, 0, none⟩ = some (.pointer (some ⟨rb, 0, none⟩)))
    (first | exact HS.out _ _ hE1.out | exact HS.out _ _ (hE1.out.trans hk3) | exact HS.out _ _ ((hE1.out.trans hk3).trans hk4))
    ((first
      | (go_at_call 38; refine C1.out.mono ?_; rintro en w' (⟨a, s3, m3, Ta, xa, hO1, rfl, hk3, hg3, ha⟩ | ⟨ch, rfl, _, hP⟩); rotate_left; exact ⟨rfl, hP⟩)
      | (go_at_call 41; refine (CC.out a s3 m3 _ Ta xa hO1 hk3 hg3 ha).mono ?_; rintro en w' ⟨⟨g, rfl⟩ | ⟨ch, rfl⟩, ⟨m4, hk4⟩, hP⟩; rotate_left; exact ⟨rfl, hP⟩)))
  all_goals (go_wp2_with fail; go_ret; exact hP)
end Go.Proofs.YtnolhcdfknjncaaDoor
