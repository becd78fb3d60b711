/-
  The program's evaluator: blocks, primitives.
-/
import Derived.Test.YtnolhcdfknjncaaDoorT8
set_option linter.unusedVariables false
set_option linter.unusedSimpArgs false
namespace Go.Proofs.YtnolhcdfknjncaaDoor
open Go.RowKit

/-- behind the values of the Kids -/
def rowP (inp : List Int) (rec : Core → PEnv → St → Out) (k n : Int) : (Res ⊕ List PV) × St → Out
  | (.inl r, s') => (r, s')
  | (.inr l, s') => if k = 7 then (.val (.blk n l), s') else primP inp rec n l s'
theorem evs_val {rec : Core → PEnv → St → Out} {e : PEnv} {c : Core} {cs : List Core} {acc : List PV} {s s2 : St} {v : PV} (h : rec c e s = (.val v, s2)) : evs rec e (c :: cs) acc s = evs rec e cs (acc ++ [v]) s2 := by
  simp [evs, h]
theorem evs_not {inp : List Int} {rec : Core → PEnv → St → Out} {k n : Int} {e : PEnv} {c : Core} {cs : List Core} {acc : List PV} {s : St} (h : ∀ v s2, rec c e s ≠ (.val v, s2)) : rowP inp rec k n (evs rec e (c :: cs) acc s) = rec c e s := by
  unfold evs
  generalize rec c e s = o at *
  obtain ⟨r, s2⟩ := o
  cases r with
  | val v => exact absurd rfl (h v s2)
  | raised v => rfl
  | stuck => rfl
  | cut => rfl
theorem infoVal : (Tryd.prog.info? 54).map (fun i => (i.zero, i.size, i.bytes)) = some (some .nilIface, 1, 16) := by kernel_rfl
theorem und97 : Tryd.prog.underlying 97 = some (.slice 54) := by kernel_rfl
/-- how a Kid of a row ends -/
def RowKid (rb B : Nat) (inp : List Int) (fuel : Nat) (o : Out) (mj : Mem) (wr : World) (m : Mem) (W : World) (out : Out) (en : Ending) (V : World) : Prop :=
  (∃ v s' m2 T x, o = (.val v, s') ∧ en = .returned (.iface T x) ∧ Evo rb mj m2 wr V ∧ Good rb B inp fuel s' m2 V ∧ RepV rb m2 V v (.iface T x)) ∨ (∃ ch, en = .panicked ch ∧ EvPost rb B inp fuel m W out (.panicked ch) V)

set_option maxRecDepth 100000 in
set_option maxHeartbeats 4000000 in
theorem term_block {rb B : Nat} {inp : List Int} {fuel n : Nat} (hok : TermOk rb B inp fuel n) {s : St} {m : Mem} {W : World} (hg : Good rb B inp fuel s m W) {t : Core} {v : Array Value} (hin : CoreIn B W t v) (hwt : WT t) {e : PEnv} {ge : Value} (he : EnvIn rb m W e ge) (hn : s.left < n + 1) (h0 : 0 < s.left) (hk : t.k = 7) :
    Calls Tryd.prog 26 #[.pointer (some ⟨rb, 0, none⟩), .agg v, ge] W (EvPost rb B inp fuel m W (bodyP inp (ev inp n) t e { s with left := s.left - 1 })) := by
  obtain ⟨hb, hg3, hT⟩ := frame_at hg hin he
  have hrbl := hg.mutLt (k := rb) (.inl rfl)
  obtain ⟨k0, n0, ks, cs, Ak, ck, Ac, cc, b, o, G0, G1, G2, G3, rfl, rfl, hks, hck, hcc, hK⟩ := hin.open_
  simp only [Core.k] at hk
  subst hk
  obtain ⟨pk, rfl⟩ := he.shape
  obtain ⟨Ai, ci, hr, _⟩ := hg3.run
  have hfu := hg.fuelB
  have hle := hg.left
  have hbn := hg.bnd
  obtain ⟨st, hst⟩ : ∃ st : Int, st = (fuel : Int) - s.left := ⟨_, rfl⟩
  have hst0 : 0 ≤ st := by omega
  have hst1 : st < (fuel : Int) := by omega
  have hst2 : st ≤ 1000000 := by omega
  have r1 : (frameW W rb #[.int .i64 7, .int .i64 n0, .slice Ak ks.length ck, .slice Ac cs.length cc] (.pointer pk)).cell? ⟨rb, 1, none⟩ = some (.int .i64 fuel) := by simp [World.cell?, hr]
  have r5 : (frameW W rb #[.int .i64 7, .int .i64 n0, .slice Ak ks.length ck, .slice Ac cs.length cc] (.pointer pk)).cell? ⟨rb, 5, none⟩ = some (.int .i64 st) := by simp [World.cell?, hr, hst]
  have f5 : (frameW W rb #[.int .i64 7, .int .i64 n0, .slice Ak ks.length ck, .slice Ac cs.length cc] (.pointer pk)).frozen? ⟨rb, 5, none⟩ = false := by simp [World.frozen?, hr]
  have b0 := at_cell0 hT.r (i := 0) rfl
  simp only [List.getElem_toArray, List.getElem_cons_zero] at b0
  have hX : ∀ nq : Nat, Good rb B inp fuel { s with left := s.left - 1 } m (((frameW W rb #[.int .i64 7, .int .i64 n0, .slice Ak ks.length ck, .slice Ac cs.length cc] (.pointer pk)).drewN nq).setCell ⟨rb, 5, none⟩ (.int .i64 (st + 1))) ∧
      Evo rb m m W (((frameW W rb #[.int .i64 7, .int .i64 n0, .slice Ak ks.length ck, .slice Ac cs.length cc] (.pointer pk)).drewN nq).setCell ⟨rb, 5, none⟩ (.int .i64 (st + 1))) ∧
      TermAt rb B m (((frameW W rb #[.int .i64 7, .int .i64 n0, .slice Ak ks.length ck, .slice Ac cs.length cc] (.pointer pk)).drewN nq).setCell ⟨rb, 5, none⟩ (.int .i64 (st + 1))) (.mk 7 n0 ks cs) #[.int .i64 7, .int .i64 n0, .slice Ak ks.length ck, .slice Ac cs.length cc] e (.pointer pk) W.heap.size := by
    intro nq
    have hkd : Evo rb m m (frameW W rb #[.int .i64 7, .int .i64 n0, .slice Ak ks.length ck, .slice Ac cs.length cc] (.pointer pk)) ((frameW W rb #[.int .i64 7, .int .i64 n0, .slice Ak ks.length ck, .slice Ac cs.length cc] (.pointer pk)).drewN nq) := Evo.below (below_drewN (Below.refl _ _) _)
    obtain ⟨q1, q2⟩ := (hg3.below (below_drewN (Below.refl _ _) nq)).step h0
    rw [← hst] at q1 q2
    exact ⟨q1, ((Evo.below hb).trans hkd).trans q2, hT.evo hg3 (hkd.trans q2)⟩
  have x0 := fun nq => (fun (hx : TermAt rb B m (((frameW W rb #[.int .i64 7, .int .i64 n0, .slice Ak ks.length ck, .slice Ac cs.length cc] (.pointer pk)).drewN nq).setCell ⟨rb, 5, none⟩ (.int .i64 (st + 1))) (.mk 7 n0 ks cs) #[.int .i64 7, .int .i64 n0, .slice Ak ks.length ck, .slice Ac cs.length cc] e (.pointer pk) W.heap.size) =>
    (show _ ∧ _ ∧ _ ∧ _ ∧ _ ∧ _ from ⟨at_cell0 hx.r (i := 0) rfl, at_cell0 hx.c (i := 0) rfl, at_cell0 hx.c (i := 1) rfl, at_cell0 hx.c (i := 2) rfl, at_cell0 hx.c (i := 3) rfl, at_cell0 hx.k (i := 0) rfl⟩)) (hX nq).2.2
  have y0 := fun nq => (x0 nq).1
  have y10 := fun nq => (x0 nq).2.1
  have y11 := fun nq => (x0 nq).2.2.1
  have y12 := fun nq => (x0 nq).2.2.2.1
  have y13 := fun nq => (x0 nq).2.2.2.2.1
  have y20 := fun nq => (x0 nq).2.2.2.2.2
  simp only [List.getElem_toArray, List.getElem_cons_zero, List.getElem_cons_succ] at y0 y10 y11 y12 y13 y20
  have HX := Lib.hid hX
  have HST := Lib.hid (fun (m' : Mem) (V' : World) (h : Evo rb m m' W V') => hg.stay h)
  have hWT := Lib.hid hwt
  have HOK := Lib.hid hok
  have hn' : s.left - 1 < n := by omega
  have HLT := Lib.hid (show s.out.length + (s.left - 1) < fuel by omega)
  obtain ⟨out, hout⟩ : ∃ out, bodyP inp (ev inp n) (.mk 7 n0 ks cs) e { s with left := s.left - 1 } = out := ⟨_, rfl⟩
  rw [hout]
  have HO := Lib.hid hout
  unfold frameW at r1 r5 f5 b0 y0 y10 y11 y12 y13 y20 HX
  clear hb hg hg3 hT hin he hr hX x0 hst hok hwt hn h0 hle hbn hout
  have hcl : 1 ≤ cs.length ∧ cs.length ≤ 8 := by
    have h1 := hWT.out.node.2.2.2.1
    simp only [Core.k, Core.ks, Core.cs, Core.n, cntB] at h1
    rw [if_neg (by decide), if_neg (by decide), if_pos trivial] at h1
    have := of_decide_eq_true h1
    omega
  have hc64 := hK.hcl
  have hcl0 : cs.length ≤ 3000000000000 := by omega
  have hcp : 0 < cs.length := by omega
  have HCL := Lib.hid hcl
  clear hcl hc64
  obtain ⟨i0, hinf, hz0, hz1, hz2⟩ := info_parts infoVal
  go_enter Tryd.func26, Tryd.ntmps26
  go_wp2_with fail
  go_quiet (fail)
  go_wp2_with fail
  obtain ⟨gX, eX, tX⟩ := HX.out nq
  have z0 := y0 nq
  have z10 := y10 nq
  have z11 := y11 nq
  have z12 := y12 nq
  have z13 := y13 nq
  have z20 := y20 nq
  clear y0 y10 y11 y12 y13 y20 r1 r5 f5 b0 HX
  generalize (((((W.alloc (.cells #[.pointer (some ⟨rb, 0, none⟩)] 49)).alloc (.cells #[.int .i64 7, .int .i64 n0, .slice Ak ks.length ck, .slice Ac cs.length cc] 26)).alloc (.cells #[.pointer pk] 83)).drewN nq).setCell ⟨rb, 5, none⟩ (.int .i64 (st + 1))) = V at *
  have hO0 : out = rowP inp (ev inp n) 7 n0 (evs (ev inp n) e (cs.drop 0) [] { s with left := s.left - 1 }) := HO.out.symm.trans (by
    simp [bodyP, Core.k, Core.n, Core.cs, Core.ks]
    rfl)
  have hO1 := Lib.hid hO0
  clear hO0
  have hR0 := Lib.hid (RowIn.start gX tX)
  have HG := Lib.hid gX
  have HE := Lib.hid eX
  have hsf : s.out.length + (s.left - 1) < fuel := HLT.out
  have HSF := Lib.hid hsf
  clear gX eX tX hsf
  go_loopw [16, 166] (fun rv i wr => ∃ (j : Nat) (acc : List PV) (s' : St) (mj : Mem) (Fs : List Value), j ≤ cs.length ∧ i = .int .i64 (j : Int) ∧ RowIn rb B inp fuel (.mk 7 n0 ks cs) #[.int .i64 7, .int .i64 n0, .slice Ak ks.length ck, .slice Ac cs.length cc] e (.pointer pk) W.heap.size { s with left := s.left - 1 } m V j acc s' mj wr rv Fs ∧ Hid (out = rowP inp (ev inp n) 7 n0 (evs (ev inp n) e (cs.drop j) acc s'))) (fun _ i _ => cs.length + 1 - (intOf i).toNat)
  case atStart => exact ⟨0, [], _, m, [], by omega, rfl, hR0.out, hO1⟩
  case round =>
    obtain ⟨j, acc, s', mj, Fs, hj, rfl, hR, hout⟩ := hrel
    by_cases hlt : j < cs.length
    · have hdrop : cs.drop j = cs[j] :: cs.drop (j + 1) := List.drop_eq_getElem_cons hlt
      have ho := hout.out
      rw [hdrop] at ho
      have hleft : s'.left < n := Nat.lt_of_le_of_lt hR.le.left hn'
      have hev := ev_le inp n cs[j] e s'
      have HC := Lib.hid ((kid_term HOK.out hR.good hR.tm hWT.out hlt hleft).mono fun en V2 hh => (show RowKid rb B inp fuel (ev inp n cs[j] e s') mj wr m W out en V2 from by
        rcases hh.inv with ⟨v, s2, m2, T, x, h1, h2, h3, h4, h5⟩ | ⟨ch, rfl, _, hne, _⟩
        · exact .inl ⟨v, s2, m2, T, x, h1, h2, h3, h4, h5⟩
        · refine .inr ⟨ch, rfl, ?_⟩
          have hne' : ∀ v s2, ev inp n cs[j] e s' ≠ (.val v, s2) := hne
          rw [evs_not hne'] at ho
          rw [ho]
          exact (hR.back HG.out hh).from_ HE.out))
      have hml : j + 1 ≤ maxLen := by unfold maxLen; omega
      have HJ := Lib.hid hj
      have HOUT := Lib.hid ho
      have HLE := Lib.hid hev
      have HOW := Lib.hid (fun (m2 : Mem) (V2 : World) (hk : Evo rb mj m2 wr V2) => (show V2.ownsRow V.heap.size 54 1 u16 j Fs from ownsRow_same hR.row (fun k hk' => by
        have hp := hR.good.priv k (by rw [hR.priv, hk']; simp)
        exact hk.same k hp.2.1 hp.2.2)))
      have HVS := Lib.hid (fun (m2 : Mem) (V2 : World) (hk : Evo rb mj m2 wr V2) (o : Obj) => (show V.heap.size ≤ (V2.alloc o).heap.size from by
        rw [World.size_alloc]; exact Nat.le_succ_of_le (Nat.le_trans hR.evo.size hk.size)))
      have HR := Lib.hid hR
      clear hR ho hev hdrop hleft
      go_wp2_with (first
        | (go_at_call 38; refine HC.out.mono ?_; rintro en w' (⟨a, s2, m2, T, x, hv1, rfl, hk1, hg1, hrv⟩ | ⟨ch, rfl, hP⟩); rotate_left; exact ⟨rfl, hP⟩)
        | (at_builtin; refine wpList_append_own_at _ rfl _ _ 97 rfl V.heap.size 54 i0 .nilIface 1 16 und97 hinf hz0 hz1 hz2 rfl (by decide) _ _ _ rfl ((HOW.out _ _ hk1).alloc _) ⟨w'.heap.size, 0, none⟩ 1 1 [.iface T x] rfl rfl (cell_one_new _ _ _) (by simp [Value.oneCell']) hml (by omega) (HVS.out _ _ hk1 _) ?_; intro v' w1 hown' hgrow _ hat))
      have hgrow' := hgrow
      change World.grownBy _ w1 u16.ownBlock at hgrow'
      have hat' : v'.ownBlock = u16.ownBlock ∨ v'.ownBlock = some (w'.alloc (.cells #[.iface T x] 54)).heap.size := hat
      have hle := HLE.out
      rw [hv1] at hle
      have HM := Lib.hid (HR.out.more HG.out hk1 hg1 hrv hle hown' hgrow' hat')
      have HO2 := Lib.hid (HOUT.out.trans (congrArg _ (evs_val hv1)))
      clear hgrow hgrow' hat hat' hown' hrv hg1 hk1 hv1 hle
      go_roundw
      case rel => exact ⟨j + 1, acc ++ [a], s2, _, Fs ++ [.iface T x], by have := hlt; omega, by go_num, HM.out, HO2⟩
      case measure => simp [intOf]; omega
    · have hjn : j = cs.length := by omega
      subst hjn
      obtain ⟨g, cap, F, rfl, hcap, hgW, hargs, hap⟩ := hR.whole HG.out hcp
      have hal := hR.len
      have ho := hout.out
      rw [List.drop_length] at ho
      have hEW : Evo rb m { mj with priv := m.priv } W wr := HE.out.trans hR.evo
      have y10 := at_cell0 hR.tm.c (i := 0) rfl
      have y11 := at_cell0 hR.tm.c (i := 1) rfl
      have y0 := at_cell0 hR.tm.r (i := 0) rfl
      simp only [List.getElem_toArray, List.getElem_cons_zero, List.getElem_cons_succ] at y0 y10 y11
      have hle := hR.le
      have HLEN := Lib.hid hal
      have he : out = (.val (.blk n0 acc), s') := by rw [ho]; rfl
      have HP := Lib.hid (show EvPost rb B inp fuel m W out (.returned (.iface 95 (.pointer (some ⟨wr.heap.size, 0, none⟩)))) (wr.alloc (.cells #[.int .i64 n0, .slice (some ⟨g, 0, none⟩) acc.length cap] 99)) from by
        have ha : Evo rb { mj with priv := m.priv } { mj with priv := m.priv } wr (wr.alloc (.cells #[.int .i64 n0, .slice (some ⟨g, 0, none⟩) acc.length cap] 99)) := Evo.alloc _ _ _ _
        rw [he]
        refine EvPost.val (hEW.trans ha) (hgW.below ((Below.refl _ _).alloc (Nat.le_refl _) _)) ?_
        have hr : RepV rb { mj with priv := m.priv } (wr.alloc (.cells #[.int .i64 n0, .slice (some ⟨g, 0, none⟩) acc.length cap] 99)) (.blk n0 acc) (.iface 95 (.pointer (some ⟨wr.heap.size, 0, none⟩))) :=
          .blk (at_new (fun k hk => hgW.apartLt hk) _ _) (Nat.lt_of_lt_of_le hargs.lt ha.size) hap hcap (by have := HCL.out; omega) (fun i hi => (cell_of_heap (ha.same g hargs.lt hargs.still) i).trans (hargs.cells i hi)) (fun i hi => (hargs.rep i hi).evo ha)
        exact hr)
      clear hR hgW hargs hap hEW he ho hcap hle hal hout hO1 hR0
      go_wp2_with fail
      go_ret
      exact HP.out

set_option maxRecDepth 100000 in
set_option maxHeartbeats 4000000 in
theorem term_prim {rb B : Nat} {inp : List Int} {fuel n : Nat} (hok : TermOk rb B inp fuel n) {s : St} {m : Mem} {W : World} (hg : Good rb B inp fuel s m W) {t : Core} {v : Array Value} (hin : CoreIn B W t v) (hwt : WT t) {e : PEnv} {ge : Value} (he : EnvIn rb m W e ge) (hn : s.left < n + 1) (h0 : 0 < s.left) (hk : t.k = 10) :
    Calls Tryd.prog 26 #[.pointer (some ⟨rb, 0, none⟩), .agg v, ge] W (EvPost rb B inp fuel m W (bodyP inp (ev inp n) t e { s with left := s.left - 1 })) := by
  obtain ⟨hb, hg3, hT⟩ := frame_at hg hin he
  have hrbl := hg.mutLt (k := rb) (.inl rfl)
  obtain ⟨k0, n0, ks, cs, Ak, ck, Ac, cc, b, o, G0, G1, G2, G3, rfl, rfl, hks, hck, hcc, hK⟩ := hin.open_
  simp only [Core.k] at hk
  subst hk
  obtain ⟨pk, rfl⟩ := he.shape
  obtain ⟨Ai, ci, hr, _⟩ := hg3.run
  have hfu := hg.fuelB
  have hle := hg.left
  have hbn := hg.bnd
  obtain ⟨st, hst⟩ : ∃ st : Int, st = (fuel : Int) - s.left := ⟨_, rfl⟩
  have hst0 : 0 ≤ st := by omega
  have hst1 : st < (fuel : Int) := by omega
  have hst2 : st ≤ 1000000 := by omega
  have r1 : (frameW W rb #[.int .i64 10, .int .i64 n0, .slice Ak ks.length ck, .slice Ac cs.length cc] (.pointer pk)).cell? ⟨rb, 1, none⟩ = some (.int .i64 fuel) := by simp [World.cell?, hr]
  have r5 : (frameW W rb #[.int .i64 10, .int .i64 n0, .slice Ak ks.length ck, .slice Ac cs.length cc] (.pointer pk)).cell? ⟨rb, 5, none⟩ = some (.int .i64 st) := by simp [World.cell?, hr, hst]
  have f5 : (frameW W rb #[.int .i64 10, .int .i64 n0, .slice Ak ks.length ck, .slice Ac cs.length cc] (.pointer pk)).frozen? ⟨rb, 5, none⟩ = false := by simp [World.frozen?, hr]
  have b0 := at_cell0 hT.r (i := 0) rfl
  simp only [List.getElem_toArray, List.getElem_cons_zero] at b0
  have hX : ∀ nq : Nat, Good rb B inp fuel { s with left := s.left - 1 } m (((frameW W rb #[.int .i64 10, .int .i64 n0, .slice Ak ks.length ck, .slice Ac cs.length cc] (.pointer pk)).drewN nq).setCell ⟨rb, 5, none⟩ (.int .i64 (st + 1))) ∧
      Evo rb m m W (((frameW W rb #[.int .i64 10, .int .i64 n0, .slice Ak ks.length ck, .slice Ac cs.length cc] (.pointer pk)).drewN nq).setCell ⟨rb, 5, none⟩ (.int .i64 (st + 1))) ∧
      TermAt rb B m (((frameW W rb #[.int .i64 10, .int .i64 n0, .slice Ak ks.length ck, .slice Ac cs.length cc] (.pointer pk)).drewN nq).setCell ⟨rb, 5, none⟩ (.int .i64 (st + 1))) (.mk 10 n0 ks cs) #[.int .i64 10, .int .i64 n0, .slice Ak ks.length ck, .slice Ac cs.length cc] e (.pointer pk) W.heap.size := by
    intro nq
    have hkd : Evo rb m m (frameW W rb #[.int .i64 10, .int .i64 n0, .slice Ak ks.length ck, .slice Ac cs.length cc] (.pointer pk)) ((frameW W rb #[.int .i64 10, .int .i64 n0, .slice Ak ks.length ck, .slice Ac cs.length cc] (.pointer pk)).drewN nq) := Evo.below (below_drewN (Below.refl _ _) _)
    obtain ⟨q1, q2⟩ := (hg3.below (below_drewN (Below.refl _ _) nq)).step h0
    rw [← hst] at q1 q2
    exact ⟨q1, ((Evo.below hb).trans hkd).trans q2, hT.evo hg3 (hkd.trans q2)⟩
  have x0 := fun nq => (fun (hx : TermAt rb B m (((frameW W rb #[.int .i64 10, .int .i64 n0, .slice Ak ks.length ck, .slice Ac cs.length cc] (.pointer pk)).drewN nq).setCell ⟨rb, 5, none⟩ (.int .i64 (st + 1))) (.mk 10 n0 ks cs) #[.int .i64 10, .int .i64 n0, .slice Ak ks.length ck, .slice Ac cs.length cc] e (.pointer pk) W.heap.size) =>
    (show _ ∧ _ ∧ _ ∧ _ ∧ _ ∧ _ from ⟨at_cell0 hx.r (i := 0) rfl, at_cell0 hx.c (i := 0) rfl, at_cell0 hx.c (i := 1) rfl, at_cell0 hx.c (i := 2) rfl, at_cell0 hx.c (i := 3) rfl, at_cell0 hx.k (i := 0) rfl⟩)) (hX nq).2.2
  have y0 := fun nq => (x0 nq).1
  have y10 := fun nq => (x0 nq).2.1
  have y11 := fun nq => (x0 nq).2.2.1
  have y12 := fun nq => (x0 nq).2.2.2.1
  have y13 := fun nq => (x0 nq).2.2.2.2.1
  have y20 := fun nq => (x0 nq).2.2.2.2.2
  simp only [List.getElem_toArray, List.getElem_cons_zero, List.getElem_cons_succ] at y0 y10 y11 y12 y13 y20
  have HX := Lib.hid hX
  have HST := Lib.hid (fun (m' : Mem) (V' : World) (h : Evo rb m m' W V') => hg.stay h)
  have hWT := Lib.hid hwt
  have HOK := Lib.hid hok
  have hn' : s.left - 1 < n := by omega
  have HLT := Lib.hid (show s.out.length + (s.left - 1) < fuel by omega)
  obtain ⟨out, hout⟩ : ∃ out, bodyP inp (ev inp n) (.mk 10 n0 ks cs) e { s with left := s.left - 1 } = out := ⟨_, rfl⟩
  rw [hout]
  have HO := Lib.hid hout
  unfold frameW at r1 r5 f5 b0 y0 y10 y11 y12 y13 y20 HX
  clear hb hg hg3 hT hin he hr hX x0 hst hok hwt hn h0 hle hbn hout
  have hcl : cs.length = if two n0 then 2 else 1 := by
    have h1 := hWT.out.node.2.2.2.1
    simp only [Core.k, Core.ks, Core.cs, Core.n, cntB] at h1
    rw [if_neg (by decide), if_neg (by decide), if_neg (by decide), if_pos trivial] at h1
    exact (of_decide_eq_true h1).2
  have hcp' : 1 ≤ cs.length ∧ cs.length ≤ 2 := by rw [hcl]; split <;> omega
  have hpr : 1 ≤ n0 ∧ n0 ≤ 16 := by
    have h1 := hWT.out.node.2.2.1
    by_cases hn : 1 ≤ n0 ∧ n0 ≤ 16
    · exact hn
    · simp [Core.k, Core.n, numE, hn] at h1
  have hc64 := hK.hcl
  have hcl0 : cs.length ≤ 3000000000000 := by omega
  have hcp : 0 < cs.length := by omega
  have HCL := Lib.hid hcl
  clear hcl hc64
  obtain ⟨i0, hinf, hz0, hz1, hz2⟩ := info_parts infoVal
  go_enter Tryd.func26, Tryd.ntmps26
  go_wp2_with fail
  go_quiet (fail)
  go_wp2_with fail
  obtain ⟨gX, eX, tX⟩ := HX.out nq
  have z0 := y0 nq
  have z10 := y10 nq
  have z11 := y11 nq
  have z12 := y12 nq
  have z13 := y13 nq
  have z20 := y20 nq
  clear y0 y10 y11 y12 y13 y20 r1 r5 f5 b0 HX
  generalize (((((W.alloc (.cells #[.pointer (some ⟨rb, 0, none⟩)] 49)).alloc (.cells #[.int .i64 10, .int .i64 n0, .slice Ak ks.length ck, .slice Ac cs.length cc] 26)).alloc (.cells #[.pointer pk] 83)).drewN nq).setCell ⟨rb, 5, none⟩ (.int .i64 (st + 1))) = V at *
  have hO0 : out = rowP inp (ev inp n) 10 n0 (evs (ev inp n) e (cs.drop 0) [] { s with left := s.left - 1 }) := HO.out.symm.trans (by
    simp [bodyP, Core.k, Core.n, Core.cs, Core.ks]
    rfl)
  have hO1 := Lib.hid hO0
  clear hO0
  have hR0 := Lib.hid (RowIn.start gX tX)
  have HG := Lib.hid gX
  have HE := Lib.hid eX
  have hsf : s.out.length + (s.left - 1) < fuel := HLT.out
  have HSF := Lib.hid hsf
  clear gX eX tX hsf
  go_loopw [16, 166] (fun rv i wr => ∃ (j : Nat) (acc : List PV) (s' : St) (mj : Mem) (Fs : List Value), j ≤ cs.length ∧ i = .int .i64 (j : Int) ∧ RowIn rb B inp fuel (.mk 10 n0 ks cs) #[.int .i64 10, .int .i64 n0, .slice Ak ks.length ck, .slice Ac cs.length cc] e (.pointer pk) W.heap.size { s with left := s.left - 1 } m V j acc s' mj wr rv Fs ∧ Hid (out = rowP inp (ev inp n) 10 n0 (evs (ev inp n) e (cs.drop j) acc s'))) (fun _ i _ => cs.length + 1 - (intOf i).toNat)
  case atStart => exact ⟨0, [], _, m, [], by omega, rfl, hR0.out, hO1⟩
  case round =>
    obtain ⟨j, acc, s', mj, Fs, hj, rfl, hR, hout⟩ := hrel
    by_cases hlt : j < cs.length
    · have hdrop : cs.drop j = cs[j] :: cs.drop (j + 1) := List.drop_eq_getElem_cons hlt
      have ho := hout.out
      rw [hdrop] at ho
      have hleft : s'.left < n := Nat.lt_of_le_of_lt hR.le.left hn'
      have hev := ev_le inp n cs[j] e s'
      have HC := Lib.hid ((kid_term HOK.out hR.good hR.tm hWT.out hlt hleft).mono fun en V2 hh => (show RowKid rb B inp fuel (ev inp n cs[j] e s') mj wr m W out en V2 from by
        rcases hh.inv with ⟨v, s2, m2, T, x, h1, h2, h3, h4, h5⟩ | ⟨ch, rfl, _, hne, _⟩
        · exact .inl ⟨v, s2, m2, T, x, h1, h2, h3, h4, h5⟩
        · refine .inr ⟨ch, rfl, ?_⟩
          have hne' : ∀ v s2, ev inp n cs[j] e s' ≠ (.val v, s2) := hne
          rw [evs_not hne'] at ho
          rw [ho]
          exact (hR.back HG.out hh).from_ HE.out))
      have hml : j + 1 ≤ maxLen := by unfold maxLen; omega
      have HJ := Lib.hid hj
      have HOUT := Lib.hid ho
      have HLE := Lib.hid hev
      have HOW := Lib.hid (fun (m2 : Mem) (V2 : World) (hk : Evo rb mj m2 wr V2) => (show V2.ownsRow V.heap.size 54 1 u16 j Fs from ownsRow_same hR.row (fun k hk' => by
        have hp := hR.good.priv k (by rw [hR.priv, hk']; simp)
        exact hk.same k hp.2.1 hp.2.2)))
      have HVS := Lib.hid (fun (m2 : Mem) (V2 : World) (hk : Evo rb mj m2 wr V2) (o : Obj) => (show V.heap.size ≤ (V2.alloc o).heap.size from by
        rw [World.size_alloc]; exact Nat.le_succ_of_le (Nat.le_trans hR.evo.size hk.size)))
      have HR := Lib.hid hR
      clear hR ho hev hdrop hleft
      go_wp2_with (first
        | (go_at_call 38; refine HC.out.mono ?_; rintro en w' (⟨a, s2, m2, T, x, hv1, rfl, hk1, hg1, hrv⟩ | ⟨ch, rfl, hP⟩); rotate_left; exact ⟨rfl, hP⟩)
        | (at_builtin; refine wpList_append_own_at _ rfl _ _ 97 rfl V.heap.size 54 i0 .nilIface 1 16 und97 hinf hz0 hz1 hz2 rfl (by decide) _ _ _ rfl ((HOW.out _ _ hk1).alloc _) ⟨w'.heap.size, 0, none⟩ 1 1 [.iface T x] rfl rfl (cell_one_new _ _ _) (by simp [Value.oneCell']) hml (by omega) (HVS.out _ _ hk1 _) ?_; intro v' w1 hown' hgrow _ hat))
      have hgrow' := hgrow
      change World.grownBy _ w1 u16.ownBlock at hgrow'
      have hat' : v'.ownBlock = u16.ownBlock ∨ v'.ownBlock = some (w'.alloc (.cells #[.iface T x] 54)).heap.size := hat
      have hle := HLE.out
      rw [hv1] at hle
      have HM := Lib.hid (HR.out.more HG.out hk1 hg1 hrv hle hown' hgrow' hat')
      have HO2 := Lib.hid (HOUT.out.trans (congrArg _ (evs_val hv1)))
      clear hgrow hgrow' hat hat' hown' hrv hg1 hk1 hv1 hle
      go_roundw
      case rel => exact ⟨j + 1, acc ++ [a], s2, _, Fs ++ [.iface T x], by have := hlt; omega, by go_num, HM.out, HO2⟩
      case measure => simp [intOf]; omega
    · have hjn : j = cs.length := by omega
      subst hjn
      obtain ⟨g, cap, F, rfl, hcap, hgW, hargs, hap⟩ := hR.whole HG.out hcp
      have hal := hR.len
      have ho := hout.out
      rw [List.drop_length] at ho
      have hEW : Evo rb m { mj with priv := m.priv } W wr := HE.out.trans hR.evo
      have y10 := at_cell0 hR.tm.c (i := 0) rfl
      have y11 := at_cell0 hR.tm.c (i := 1) rfl
      have y0 := at_cell0 hR.tm.r (i := 0) rfl
      simp only [List.getElem_toArray, List.getElem_cons_zero, List.getElem_cons_succ] at y0 y10 y11
      have hle := hR.le
      have HLEN := Lib.hid hal
      have he : out = primP inp (ev inp n) n0 acc s' := by rw [ho]; rfl
      have HC := Lib.hid ((prim_any HOK.out hgW (Nat.lt_of_le_of_lt hle.left hn') (by have h1 : s'.out.length + s'.left ≤ s.out.length + (s.left - 1) + 0 := hle.out; have h2 := HSF.out; omega) hpr.1 hpr.2 (by rw [hal]; exact HCL.out) hargs).mono fun en V2 hh => (show LastEnds rb B inp fuel { mj with priv := m.priv } wr m W out en V2 from by rw [he]; exact lastEnds hh hEW))
      clear hR hgW hargs hap hEW he ho hcap hle hal hout hO1 hR0
      go_wp2_with (go_at_call 43; refine HC.out.mono ?_; rintro en w' ⟨⟨g, rfl⟩ | ⟨ch, rfl⟩, ⟨m4, hk4⟩, hP⟩; rotate_left; exact ⟨rfl, hP⟩)
      all_goals (go_ret; exact hP)
end Go.Proofs.YtnolhcdfknjncaaDoor
