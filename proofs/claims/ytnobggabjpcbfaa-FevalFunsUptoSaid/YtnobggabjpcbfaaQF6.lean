/-
  10 texts of this seat in one: H17 H18 H19 K2 H20 S0 Y0 B4 B5 B6.
-/
import Derived.Test.YtnobggabjpcbfaaQF5
import Derived.StillTailTactics
import Derived.Test.YtnobggabjpcbfaaQF2
import Derived.Test.YtnobggabjpcbfaaQF3
import Derived.Test.YtnobggabjpcbfaaQF1
import Derived.Test.YtnobggabjpcbfaaQF4
/-
  The flat evaluator: bodies.
-/
set_option linter.unusedVariables false
set_option linter.unusedSimpArgs false
namespace Go.Proofs.Ytnobggabjpcbfaa
open Go.RowKit

section
variable {rb B : Nat} {p : FlatP} {inp : List Int} {fuel n : Nat} {s : FSt} {m : Mem} {W : World}
theorem evF_ret (funs : List FFun) (inp : List Int) {k : Nat} (hk : 0 < k) (a : Atm) (e : PEnv) (s : FSt) : evF funs inp k (.ret a) e s = match atomP e a with | some v => (.val v, s) | none => (.stuck, s) := by
  obtain ⟨k, rfl⟩ : ∃ q, k = q + 1 := ⟨k - 1, by omega⟩
  rfl
theorem evF_cut (funs : List FFun) (inp : List Int) {k : Nat} (hk : 0 < k) (x kd nn : Int) (ats : List Atm) (ks : List Int) (bl : List Anf) (rest : Anf) (e : PEnv) (s : FSt) (h : s.left = 0) : evF funs inp k (.bind x kd nn ats ks bl rest) e s = (.cut, s) := by
  obtain ⟨k, rfl⟩ : ∃ q, k = q + 1 := ⟨k - 1, by omega⟩
  unfold evF
  rw [if_pos h]
theorem evF_group (funs : List FFun) (inp : List Int) {k : Nat} (x nn : Int) (ats : List Atm) (ks : List Int) (bl : List Anf) (rest : Anf) (e : PEnv) (s : FSt) (h : 0 < s.left) :
    evF funs inp (k + 1) (.bind x 10 nn ats ks bl rest) e s = match atomsP (groupEnv ks s.made.length e) ats with | some l => evF funs inp k rest (groupEnv ks s.made.length e) { s with left := s.left - 1, made := s.made ++ groupMade ks l } | none => (.stuck, { s with left := s.left - 1 }) := by
  show (if s.left = 0 then _ else _) = _
  rw [if_neg (by omega)]
  simp only [bindF, if_true]
  cases atomsP (groupEnv ks s.made.length e) ats <;> rfl
theorem evF_side (p : FlatP) (inp : List Int) {k : Nat} (x kd nn : Int) (ats : List Atm) (ks : List Int) (bl : List Anf) (rest : Anf) (e : PEnv) (s : FSt) (h : 0 < s.left) (hk : kd ≠ 10) :
    evF p.funs inp (k + 1) (.bind x kd nn ats ks bl rest) e s = FOut.andThen (sideF p inp k kd nn ats ks bl e { s with left := s.left - 1 }) fun v s => evF p.funs inp k rest ((x, v) :: e) s := by
  show (if s.left = 0 then _ else _) = _
  rw [if_neg (by omega)]
  simp only [bindF, if_neg hk, sideF]
  cases atomsP e ats <;> rfl

theorem sideF_le (inp : List Int) (n : Nat) (k nn : Int) (ats : List Atm) (ks : List Int) (bl : List Anf) (e : PEnv) (s : FSt) : LeF s (sideF p inp n k nn ats ks bl e s).2 1 := by
  unfold sideF
  cases atomsP e ats with
  | some l => exact rhsF_le (funs := p.funs) (inp := inp) (evF_le p.funs inp n) k nn l ks bl e s
  | none => exact LeF.refl _ _
theorem WfA.tail {nf : Nat} : ∀ {t : Anf}, WfA nf t → ∀ j, WfA nf (t.tail j)
  | t, h, 0 => by rw [Anf.tail_zero]; exact h
  | .ret a, h, j + 1 => h
  | .bind _ _ _ _ _ _ r, h, j + 1 => by
    cases h with
    | bind _ _ hr => exact hr.tail j
/-- what stands behind some binds -/
structure BodyAt (rb B : Nat) (p : FlatP) (inp : List Int) (fuel n : Nat) (m : Mem) (W W0 : World) (t : Anf) (out : FOut) (j : Nat) (kv : Value) (wr : World) (e : PEnv) (s : FSt) (mj : Mem) (k : Nat) : Prop where
  env : EnvIn rb mj wr e kv
  good : Good rb B p inp fuel s mj wr
  evo : Evo rb m mj W0 wr
  out : out = evF p.funs inp k (t.tail j) e s
  lt : s.left < k
  le : k ≤ n
set_option maxRecDepth 100000 in
set_option maxHeartbeats 4000000 in
theorem body_step (hok : ∀ k, k < n → BodyOk rb B p inp fuel k) (hwf : ∀ g ∈ p.funs, WfA p.funs.length g.body) : BodyOk rb B p inp fuel n := by
  intro t e s m W ga ge hin hwt he hg hn
  obtain ⟨A, c, b, o, rfl, hc, h96, hA, hB⟩ := hin.at_
  obtain ⟨pk, rfl⟩ := he.shape
  obtain ⟨W0, hW0⟩ : ∃ W0, W.alloc (.cells #[.slice A t.len c, .bool t.last.v, .int .i64 t.last.n] 27) = W0 := ⟨_, rfl⟩
  have hb0 : Below W.heap.size W W0 := by rw [← hW0]; exact (Below.refl _ _).alloc (Nat.le_refl _) _
  have hE0 : Evo rb m m W W0 := Evo.below hb0
  have hat : At rb m W0 W.heap.size (.cells #[.slice A t.len c, .bool t.last.v, .int .i64 t.last.n] 27 (0, 0)) := by rw [← hW0]; exact at_new (fun k hk => hg.mutLt hk) _ _
  have HC := Lib.hid (fun (V : World) (m' : Mem) (hE : Evo rb m m' W0 V) => (show V.cell? ⟨W.heap.size, 0, none⟩ = some (.slice A t.len c) ∧ V.cell? ⟨W.heap.size, 1, none⟩ = some (.bool t.last.v) ∧ V.cell? ⟨W.heap.size, 2, none⟩ = some (.int .i64 t.last.n) from
    ⟨at_cell0 (hat.evo hE) rfl, at_cell0 (hat.evo hE) rfl, at_cell0 (hat.evo hE) rfl⟩))
  have c0 := ((HC.out W0 m (Evo.refl _ _ _))).1
  have HBI := Lib.hid (fun (j : Nat) (hj : j < t.len) (V : World) (m' : Mem) (hE : Evo rb m m' W0 V) =>
    (show ∃ x k nn ats ks bl Aa ca Ak ck Al cl, A = some ⟨b, o, none⟩ ∧ t.tail j = .bind x k nn ats ks bl (t.tail (j + 1)) ∧ V.cell? ⟨b, o + j * 6, none⟩ = some (.int .i64 x) ∧ V.cell? ⟨b, o + j * 6 + 1, none⟩ = some (.int .i64 k) ∧ V.cell? ⟨b, o + j * 6 + 2, none⟩ = some (.int .i64 nn) ∧
        V.cell? ⟨b, o + j * 6 + 3, none⟩ = some (.slice Aa ats.length ca) ∧ V.cell? ⟨b, o + j * 6 + 4, none⟩ = some (.slice Ak ks.length ck) ∧ V.cell? ⟨b, o + j * 6 + 5, none⟩ = some (.slice Al bl.length cl) ∧
        BindOk p.funs.length x k nn ats ks bl.length ∧ AtomsIn B V Aa ats ∧ IntsIn B V Ak ks ∧ ks.length ≤ ck ∧ BlocksIn B V Al bl ∧ bl.length ≤ cl ∧ (∀ c ∈ bl, WfA p.funs.length c) from by
      obtain ⟨x, k, nn, ats, ks, bl, Aa, ca, Ak, ck, Al, cl, h1, h2⟩ := hB j hj
      have hbV : Below B W V := (hb0.mono hg.Bs).trans ((hg.below hb0).stay hE)
      have hw : WfA p.funs.length (.bind x k nn ats ks bl (t.tail (j + 1))) := by rw [← h1]; exact hwt.tail j
      cases hw with
      | bind hbe hbb hbr =>
        refine ⟨x, k, nn, ats, ks, bl, Aa, ca, Ak, ck, Al, cl, hA (by omega), h1, (hbV.cell (p := ⟨_, _, none⟩) h2.lt).trans h2.c0, (hbV.cell (p := ⟨_, _, none⟩) h2.lt).trans h2.c1, (hbV.cell (p := ⟨_, _, none⟩) h2.lt).trans h2.c2, (hbV.cell (p := ⟨_, _, none⟩) h2.lt).trans h2.c3, (hbV.cell (p := ⟨_, _, none⟩) h2.lt).trans h2.c4, (hbV.cell (p := ⟨_, _, none⟩) h2.lt).trans h2.c5,
          bindOk_of hbe, h2.ha.below hbV, h2.hk.below hbV, h2.hkc, ⟨h2.hl8, fun q hq => ?_⟩, h2.hlc, hbb⟩
        obtain ⟨bb, oo, g0, g1, g2, e1, e2, e3, e4, e5, hbd⟩ := h2.blk q hq
        exact ⟨bb, oo, g0, g1, g2, e1, e2, (hbV.cell (p := ⟨_, _, none⟩) e2).trans e3, (hbV.cell (p := ⟨_, _, none⟩) e2).trans e4, (hbV.cell (p := ⟨_, _, none⟩) e2).trans e5, hbd.kept hbV⟩))
  have HT := Lib.hid (Anf.tail_ret t)
  have HWB := Lib.hid (hg.Bs)
  have HOK := Lib.hid hok
  have HWF := Lib.hid hwf
  have HE0 := Lib.hid hE0
  obtain ⟨out, hout⟩ : ∃ out, evF p.funs inp n t e s = out := ⟨_, rfl⟩
  have hst : BodyAt rb B p inp fuel n m W W0 t out 0 (.pointer pk) W0 e s m n := ⟨he.evo hE0, hg.below hb0, Evo.refl _ _ _, by rw [Anf.tail_zero]; exact hout.symm, hn, Nat.le_refl _⟩
  have HST := Lib.hid hst
  rw [hout]
  clear hst hout hat hB hin he hg hb0 hE0 hok hwf hwt hn hA
  have hT64 : t.len ≤ 2000000000000 := by omega
  obtain ⟨T, hT⟩ : ∃ T, t.len = T := ⟨_, rfl⟩
  rw [hT] at hc h96 hW0 HC c0 HBI HT hT64 ⊢
  clear hT h96
  go_enter Try.func36, Try.ntmps36
  go_wp2_with fail
  go_loopw [2, 12] (fun kv iv wr => ∃ (j : Nat) (e' : PEnv) (s' : FSt) (mj : Mem) (k : Nat), j ≤ T ∧ iv = .int .i64 (j : Int) ∧ Hid (BodyAt rb B p inp fuel n m W W0 t out j kv wr e' s' mj k)) (fun _ iv _ => T + 1 - (intOf iv).toNat)
  case atStart => exact ⟨0, e, s, m, n, by omega, rfl, HST⟩
  case round =>
    obtain ⟨j, e', s', mj, k, hj, rfl, HJ⟩ := hrel
    obtain ⟨pj, rfl⟩ := HJ.out.env.shape
    obtain ⟨q0, q1, q2⟩ := HC.out wr mj HJ.out.evo
    by_cases hlt : j < T
    · obtain ⟨x, kd, nn, ats, ks, bl, Aa, ca, Ak, ck, Al, cl, rfl, htail, r0, r1, r2, r3, r4, r5, hbo, hats, hks, hkc, hbl, hblc, hwb⟩ := HBI.out j hlt wr mj HJ.out.evo
      have hj0 : (0 : Int) ≤ (j : Int) := by omega
      have hjl : (j : Int) < (T : Int) := by omega
      have hjc : (T : Int) ≤ (c : Int) := by omega
      have w1 : IntKind.i64.wrap ((j : Int) + 1) = (j : Int) + 1 := by rw [IntKind.wrap_i64]; omega
      obtain ⟨W1, hW1⟩ : ∃ W1, wr.alloc (.cells #[.int .i64 x, .int .i64 kd, .int .i64 nn, .slice Aa ats.length ca, .slice Ak ks.length ck, .slice Al bl.length cl] 54) = W1 := ⟨_, rfl⟩
      have hb1 : Below wr.heap.size wr W1 := by rw [← hW1]; exact (Below.refl _ _).alloc (Nat.le_refl _) _
      have hE1 : Evo rb mj mj wr W1 := Evo.below hb1
      have hat : At rb mj W1 wr.heap.size (.cells #[.int .i64 x, .int .i64 kd, .int .i64 nn, .slice Aa ats.length ca, .slice Ak ks.length ck, .slice Al bl.length cl] 54 (0, 0)) := by rw [← hW1]; exact at_new (fun k hk => HJ.out.good.mutLt hk) _ _
      have hg1 := HJ.out.good.below hb1
      have HS1 := Lib.hid (step_any hg1)
      have HS := Lib.hid (fun (V : World) (m' : Mem) (hE : Evo rb mj m' W1 V) => (show V.cell? ⟨wr.heap.size, 0, none⟩ = some (.int .i64 x) ∧ V.cell? ⟨wr.heap.size, 1, none⟩ = some (.int .i64 kd) ∧ V.cell? ⟨wr.heap.size, 2, none⟩ = some (.int .i64 nn) ∧ V.cell? ⟨wr.heap.size, 3, none⟩ = some (.slice Aa ats.length ca) ∧ V.cell? ⟨wr.heap.size, 4, none⟩ = some (.slice Ak ks.length ck) ∧ V.cell? ⟨wr.heap.size, 5, none⟩ = some (.slice Al bl.length cl) from
        ⟨at_cell0 (hat.evo hE) rfl, at_cell0 (hat.evo hE) rfl, at_cell0 (hat.evo hE) rfl, at_cell0 (hat.evo hE) rfl, at_cell0 (hat.evo hE) rfl, at_cell0 (hat.evo hE) rfl⟩))
      obtain ⟨k, rfl⟩ : ∃ q, k = q + 1 := ⟨k - 1, by have := HJ.out.lt; omega⟩
      have HEW := Lib.hid (fun (V : World) (m' : Mem) (hE : Evo rb mj m' W1 V) => (show Evo rb m m' W V from (HE0.out.trans HJ.out.evo).trans (hE1.trans hE)))
      have HE1 := Lib.hid hE1
      have HOUT := Lib.hid (HJ.out.out.trans (congrArg (fun t => evF p.funs inp (k + 1) t e' s') htail))
      have hltk := HJ.out.lt
      have hlek := HJ.out.le
      have HENV := Lib.hid (HJ.out.env.evo hE1)
      have HBL := Lib.hid hbl
      have HAT := Lib.hid hats
      have HKS := Lib.hid hks
      have HBO := Lib.hid hbo
      have HB1 := Lib.hid (hg1.stay (Evo.refl rb mj W1))
      have HBW := Lib.hid (HJ.out.good.stay hE1)
      have HBS := Lib.hid hg1.Bs
      have HBN := Lib.hid hg1.bnd
      clear hb1 hE1 hat hg1 htail hbl hats hks hbo
      go_wp2_with fail
      refine HS1.out.mono ?_
      rintro en V2 (⟨hl, rfl, hg2, hE2⟩ | ⟨hl, rfl, hg2, hE2⟩)
      rotate_left
      · refine ⟨rfl, ?_⟩
        rw [HOUT.out, evF_cut _ _ (by omega) _ _ _ _ _ _ _ _ _ hl]
        exact .cut (HEW.out _ _ hE2) hg2 (thrown_one _ _)
      have HLEFT := Lib.hid hl
      obtain ⟨x0, x1, x2, x3, x4, x5⟩ := HS.out V2 mj hE2
      have hBV : Below B wr V2 := (HBW.out).trans ⟨hE2.os, hE2.tape, hE2.output, hE2.size, fun q hq => hE2.same q (Nat.lt_of_lt_of_le hq HBS.out) (fun hm => by have := hg2.mutB hm; omega)⟩
      have hB2 := hg2.Bs
      by_cases hk10 : kd = 10
      · subst hk10
        obtain ⟨q, hgok⟩ := HBO.out.group_
        have HG := Lib.hid (group_any hg2 hgok (Aa := Aa) (ca := ca) (Al := Al) (lb := bl.length) (cb := cl) ((HAT.out.below hBV).mono hB2) ((HKS.out.below hBV).mono hB2) hkc (HENV.out.evo hE2) 10 nn)
        have HG2 := Lib.hid hg2
        have HE2 := Lib.hid hE2
        clear hgok hg2 hE2 hBV hB2 hl
        go_wp2_with fail
        refine HG.out.mono ?_
        rintro en V3 (⟨l, m3, pp, hv, rfl, hE3, hg3, hen⟩ | ⟨hv, rfl, hb3⟩)
        · have HN := Lib.hid (show BodyAt rb B p inp fuel n m W W0 t out (j + 1) (.pointer pp) V3 (groupEnv ks s'.made.length e') { s' with left := s'.left - 1, made := s'.made ++ groupMade ks l } m3 k from
            ⟨hen, hg3, HJ.out.evo.trans ((HE1.out.trans HE2.out).trans hE3), by rw [HOUT.out, evF_group _ _ _ _ _ _ _ _ _ _ HLEFT.out]; simp only [hv], by have := HLEFT.out; show s'.left - 1 < k; omega, by omega⟩)
          clear hen hg3 hE3 hv
          go_wp2_with fail
          go_roundw
          case rel => exact ⟨j + 1, _, _, m3, k, by omega, by go_num, HN⟩
          case measure => simp [intOf]; omega
        · refine ⟨rfl, ?_⟩
          rw [HOUT.out, evF_group _ _ _ _ _ _ _ _ _ _ HLEFT.out]
          simp only [hv]
          exact .stuck (HEW.out _ _ (HE2.out.trans (Evo.below hb3))) (HG2.out.below hb3) (thrown_one _ _)
      · have hkb : (kd == 10) = false := by simpa using hk10
        have HSI := Lib.hid (fun (V : World) (hV : Below V2.heap.size V2 V) => (show Calls Try.prog 53 #[.pointer (some ⟨rb, 0, none⟩), .agg #[.int .i64 kd, .int .i64 nn, .slice Aa ats.length ca, .slice Ak ks.length ck, .slice Al bl.length cl], .pointer pj] V fun en V' =>
            (∃ v s3 m3 T' y, Evo rb mj m3 W1 V' ∧ en = .returned (.iface T' y) ∧ Good rb B p inp fuel s3 m3 V' ∧ RepV rb m3 V' v (.iface T' y) ∧ sideF p inp k kd nn ats ks bl e' { s' with left := s'.left - 1 } = (.val v, s3)) ∨ (∃ ch m3, Evo rb mj m3 W1 V' ∧ en = .panicked ch ∧ EvPost rb B p inp fuel m W out (.panicked ch) V') from by
          have hEV : Evo rb mj mj V2 V := Evo.below hV
          have hBB := hBV.trans (hV.mono hB2)
          have hBV2 := Nat.le_trans hB2 hV.size
          refine (side_any (HOK.out k (by omega)) HWF.out (by show s'.left - 1 < k; omega) (by have := HBN.out; show s'.out.length + (s'.left - 1) < fuel; omega) (hg2.below hV) ((HENV.out.evo hE2).evo hEV) HBO.out hk10 ((HAT.out.below hBB).mono hBV2) ((HKS.out.below hBB).mono hBV2) hkc
            ⟨HBL.out.1, fun q hq => ?_⟩ hblc hwb).mono fun en V' h => ?_
          · obtain ⟨bb, oo, g0, g1, g2, e1, e2, e3, e4, e5, hbd⟩ := HBL.out.2 q hq
            exact ⟨bb, oo, g0, g1, g2, e1, e2, (hBB.cell (p := ⟨_, _, none⟩) e2).trans e3, (hBB.cell (p := ⟨_, _, none⟩) e2).trans e4, (hBB.cell (p := ⟨_, _, none⟩) e2).trans e5, hbd.kept hBB⟩
          · obtain ⟨mE, hmE⟩ := h.evo
            rcases h.inv with ⟨v, s3, m3, T', y, h1, rfl, h3, h4, h5⟩ | ⟨ch, rfl, h2, h3, h4⟩
            · exact .inl ⟨v, s3, m3, T', y, hE2.trans (hEV.trans h3), rfl, h4, h5, h1⟩
            · refine .inr ⟨ch, mE, hE2.trans (hEV.trans hmE), rfl, ?_⟩
              rw [HOUT.out, evF_side _ _ _ _ _ _ _ _ _ _ _ HLEFT.out hk10]
              exact (h4 _).from_ (HEW.out _ _ (hE2.trans hEV))))
        have HE2 := Lib.hid hE2
        clear hg2 hE2 hBV hB2 hl
        go_wp2_with fail
        go_region_held2 (fun V => V.cell? ⟨wr.heap.size, 0, none⟩ = some (.int .i64 x) ∧ V.cell? ⟨wr.heap.size, 1, none⟩ = some (.int .i64 kd) ∧ V.cell? ⟨wr.heap.size, 2, none⟩ = some (.int .i64 nn) ∧ V.cell? ⟨wr.heap.size, 3, none⟩ = some (.slice Aa ats.length ca) ∧ V.cell? ⟨wr.heap.size, 4, none⟩ = some (.slice Ak ks.length ck) ∧ V.cell? ⟨wr.heap.size, 5, none⟩ = some (.slice Al bl.length cl))
          (first | exact HS.out _ _ HE2.out.drew | exact HS.out _ _ hEV | exact HS.out _ _ (hEV.trans (Evo.alloc _ _ _ _)))
          ((go_at_call 53; refine (HSI.out _ (Below.refl _ _).drew).mono ?_; rintro en V' (⟨v, s3, m3, T', y, hEV, rfl, hg3, hrv, hsv⟩ | ⟨ch, m3, hEV, rfl, hP⟩); rotate_left; exact ⟨rfl, hP⟩))
        all_goals
          have hle := sideF_le (p := p) inp k kd nn ats ks bl e' { s' with left := s'.left - 1 }
          rw [hsv] at hle
          have hle2 := hle.left
          have HN := Lib.hid (show BodyAt rb B p inp fuel n m W W0 t out (j + 1) (.pointer (some ⟨V'.heap.size, 0, none⟩)) (V'.alloc (.cells #[.int .i64 x, .iface T' y, .pointer pj] 99)) ((x, v) :: e') s3 m3 k from
            ⟨.cons (at_new (fun k hk => hg3.mutLt hk) _ _) (hrv.evo (Evo.alloc _ _ _ _)) ((HENV.out.evo hEV).evo (Evo.alloc _ _ _ _)), hg3.below ((Below.refl _ _).alloc (Nat.le_refl _) _), (HJ.out.evo.trans (HE1.out.trans hEV)).trans (Evo.alloc _ _ _ _),
              by rw [HOUT.out, evF_side _ _ _ _ _ _ _ _ _ _ _ HLEFT.out hk10, hsv]; rfl, by have := HLEFT.out; simp only at hle2; omega, by omega⟩)
          clear hle hle2 hg3 hrv hsv hEV
          go_wp2_with fail
          go_roundw
          case rel => exact ⟨j + 1, _, _, m3, k, by omega, by go_num, HN⟩
          case measure => simp [intOf]; omega
    · have hjT : j = T := by omega
      subst hjT
      have hjj : ¬ (j : Int) < (j : Int) := by omega
      have HA := Lib.hid ((atom_any (rb := rb) (m := mj) (W := wr) (V := wr) (Below.refl _ _) HJ.out.env t.last).mono (R' := fun en V => ∃ m', EvPost rb B p inp fuel m W out en V) fun en V h => by
        have ho := HJ.out.out
        rw [HT.out j (Nat.le_refl _), evF_ret _ _ (by have := HJ.out.lt; omega)] at ho
        have hE := HE0.out.trans HJ.out.evo
        refine ⟨mj, ?_⟩
        rcases h with ⟨v, T', x', k1, rfl, k3, k4⟩ | ⟨k1, rfl, k4⟩
        · rw [ho, k1]
          exact .val (hE.trans (Evo.below k4)) (HJ.out.good.below k4) (k3.evo (Evo.below k4))
        · rw [ho, k1]
          exact .stuck (hE.trans (Evo.below k4)) (HJ.out.good.below k4) (thrown_one _ _))
      go_wp2_with fail
      refine HA.out.mono ?_
      rintro en V ⟨-, h⟩
      rcases h.ends with ⟨g', rfl, hP⟩ | ⟨ch, rfl, hP⟩
      · go_wp2_with fail
        go_ret
        exact hP
      · exact ⟨rfl, hP⟩
end
end Go.Proofs.Ytnobggabjpcbfaa

/-
  The flat evaluator: bodies to whatever depth; a run's end.
-/
set_option linter.unusedVariables false
set_option linter.unusedSimpArgs false
namespace Go.Proofs.Ytnobggabjpcbfaa
open Go.RowKit

theorem body_ok (rb B : Nat) (p : FlatP) (inp : List Int) (fuel : Nat) (hwf : ∀ g ∈ p.funs, WfA p.funs.length g.body) (n : Nat) : BodyOk rb B p inp fuel n := by
  induction n using Nat.strongRecOn with
  | _ n ih => exact body_step ih hwf

/-! ### the deferred closure -/
theorem whole1_idle (rv rb : Nat) (x : Value) (V : World) (hr : V.cell? ⟨rv, 0, none⟩ = some (.pointer (some ⟨rb, 0, none⟩))) (h2 : V.cell? ⟨rb, 6, none⟩ = some (.int .i64 0)) (f2 : V.frozen? ⟨rb, 6, none⟩ = false) :
    CallsD Try.prog 34 #[.pointer (some ⟨rv, 0, none⟩)] .returning V fun e u' w' => e = .returned (.tuple #[]) ∧ u' = .returning ∧ w' = V.setCell ⟨rb, 6, none⟩ (.int .i64 1) := by
  refine callsD_of_wpS Try.func34 rfl fun c₀ cs hu => ?_
  apply wpS_seq
  apply wpS_region
  simp [wpOpsS, go_sem, recoverD, hu, Try.ntmps34, Exit.thenS]
  refine wpS_of_wp (Code.wp_mono (Q := fun e a w' => e = .normal ∧ a.defers = [] ∧ w' = V.setCell ⟨rb, 6, none⟩ (.int .i64 1)) ?_ ?_)
  · rintro e a w' ⟨rfl, h1, rfl⟩
    cases c₀
    simp_all [bodyPostS, results, Try.results34]
  simp only [Array.replicate_succ, Array.replicate_zero, List.push_toArray, List.setIfInBounds_toArray, List.set_cons_zero, List.set_cons_succ, List.append_toArray, List.nil_append, List.cons_append]
  clear hu
  go_wp2_with fail

theorem whole1_stop (rv rb : Nat) (k : Int) (older : List PanicEntry) (V : World) (hr : V.cell? ⟨rv, 0, none⟩ = some (.pointer (some ⟨rb, 0, none⟩))) (h2 : V.cell? ⟨rb, 6, none⟩ = some (.int .i64 0)) (f2 : V.frozen? ⟨rb, 6, none⟩ = false) :
    CallsD Try.prog 34 #[.pointer (some ⟨rv, 0, none⟩)] (.panicking ({ v := .iface 76 (.agg #[.int .i64 k]), recovered := false } :: older)) V
      fun e u' w' => e = .returned (.tuple #[]) ∧ u' = .panicking ({ v := .iface 76 (.agg #[.int .i64 k]), recovered := true } :: older) ∧ w' = (V.alloc (.cells #[.int .i64 k] 76)).setCell ⟨rb, 6, none⟩ (.int .i64 k) := by
  have hrl := World.block_lt_of_cell? _ _ hr
  have h2l := World.block_lt_of_cell? _ _ h2
  have hn := World.new_ne _ _ hr
  have hn' := World.new_ne _ _ h2
  refine callsD_of_wpS Try.func34 rfl fun c₀ cs hu => ?_
  apply wpS_seq
  apply wpS_region
  simp [wpOpsS, go_sem, recoverD, hu, Try.ntmps34, Exit.thenS]
  refine wpS_of_wp (Code.wp_mono (Q := fun e a w' => e = .normal ∧ a.defers = [] ∧ w' = (V.alloc (.cells #[.int .i64 k] 76)).setCell ⟨rb, 6, none⟩ (.int .i64 k)) ?_ ?_)
  · rintro e a w' ⟨rfl, h1, rfl⟩
    cases c₀
    simp_all [bodyPostS, results, Try.results34]
  simp only [Array.replicate_succ, Array.replicate_zero, List.push_toArray, List.setIfInBounds_toArray, List.set_cons_zero, List.set_cons_succ, List.append_toArray, List.nil_append, List.cons_append]
  clear hu
  go_wp2_with fail

theorem whole1_raised (rv rb : Nat) (k : Int) (T : TypeId) (y : Value) (older : List PanicEntry) (V : World) (hr : V.cell? ⟨rv, 0, none⟩ = some (.pointer (some ⟨rb, 0, none⟩))) (h2 : V.cell? ⟨rb, 6, none⟩ = some (.int .i64 0)) (f2 : V.frozen? ⟨rb, 6, none⟩ = false) (h3 : V.cell? ⟨rb, 7, none⟩ = some (.int .i64 0)) (f3 : V.frozen? ⟨rb, 7, none⟩ = false) (hne : rv ≠ rb)
    (hkey : Calls Try.prog 35 #[.iface T y] ((V.setCell ⟨rb, 6, none⟩ (.int .i64 4)).alloc (.cells #[.iface T y] 80)) fun e w' => e = .returned (.int .i64 k) ∧ (V.setCell ⟨rb, 6, none⟩ (.int .i64 4)).alloc (.cells #[.iface T y] 80) = w') :
    CallsD Try.prog 34 #[.pointer (some ⟨rv, 0, none⟩)] (.panicking ({ v := .iface 80 (.agg #[.iface T y]), recovered := false } :: older)) V
      fun e u' w' => e = .returned (.tuple #[]) ∧ u' = .panicking ({ v := .iface 80 (.agg #[.iface T y]), recovered := true } :: older) ∧
        w' = if 0 ≤ k then (((V.setCell ⟨rb, 6, none⟩ (.int .i64 4)).alloc (.cells #[.iface T y] 80)).setCell ⟨rb, 6, none⟩ (.int .i64 2)).setCell ⟨rb, 7, none⟩ (.int .i64 k) else (V.setCell ⟨rb, 6, none⟩ (.int .i64 4)).alloc (.cells #[.iface T y] 80) := by
  have hrl := World.block_lt_of_cell? _ _ hr
  have h2l := World.block_lt_of_cell? _ _ h2
  have hn := World.new_ne _ _ hr
  have hn' := World.new_ne _ _ h2
  refine callsD_of_wpS Try.func34 rfl fun c₀ cs hu => ?_
  apply wpS_seq
  apply wpS_region
  simp [wpOpsS, go_sem, recoverD, hu, Try.ntmps34, Exit.thenS]
  refine wpS_of_wp (Code.wp_mono (Q := fun e a w' => e = .normal ∧ a.defers = [] ∧ w' = if 0 ≤ k then (((V.setCell ⟨rb, 6, none⟩ (.int .i64 4)).alloc (.cells #[.iface T y] 80)).setCell ⟨rb, 6, none⟩ (.int .i64 2)).setCell ⟨rb, 7, none⟩ (.int .i64 k) else (V.setCell ⟨rb, 6, none⟩ (.int .i64 4)).alloc (.cells #[.iface T y] 80)) ?_ ?_)
  · rintro e a w' ⟨rfl, h1, rfl⟩
    cases c₀
    simp_all [bodyPostS, results, Try.results34]
  simp only [Array.replicate_succ, Array.replicate_zero, List.push_toArray, List.setIfInBounds_toArray, List.set_cons_zero, List.set_cons_succ, List.append_toArray, List.nil_append, List.cons_append]
  have HK := Lib.hid hkey
  clear hu hkey
  by_cases hk : 0 ≤ k
  · rw [if_pos hk]
    go_wp2_with (go_at_call 35; refine HK.out.mono ?_; rintro e w' ⟨rfl, rfl⟩)
  · rw [if_neg hk]
    have hk' : k < 0 := by omega
    go_wp2_with (go_at_call 35; refine HK.out.mono ?_; rintro e w' ⟨rfl, rfl⟩)

/-- nothing turns but the run's record, of what stood -/
structure Rest (rb : Nat) (V V' : World) : Prop where
  os : V'.os = V.os
  tape : V'.tape = V.tape
  output : V'.output = V.output
  size : V.heap.size ≤ V'.heap.size
  same : ∀ k, k < V.heap.size → k ≠ rb → V'.heap[k]? = V.heap[k]?
theorem Rest.refl (rb : Nat) (V : World) : Rest rb V V := ⟨rfl, rfl, rfl, Nat.le_refl _, fun _ _ _ => rfl⟩
theorem Rest.alloc {rb : Nat} {V V' : World} (h : Rest rb V V') (o : Obj) : Rest rb V (V'.alloc o) :=
  have hb : Below V'.heap.size V' (V'.alloc o) := (Below.refl _ _).alloc (Nat.le_refl _) _
  ⟨h.os, h.tape, h.output, Nat.le_trans h.size hb.size, fun k hk hn => (hb.block k (Nat.lt_of_lt_of_le hk h.size)).trans (h.same k hk hn)⟩
theorem Rest.set {rb : Nat} {V V' : World} (h : Rest rb V V') (o : Nat) (v : Value) : Rest rb V (V'.setCell ⟨rb, o, none⟩ v) :=
  ⟨h.os, h.tape, h.output, by simpa [World.setCell] using h.size, fun k hk hn => (heap_set_ne hn _ _).trans (h.same k hk hn)⟩
theorem Rest.evo {rb : Nat} {V V' V2 : World} (h : Rest rb V V') {m m' : Mem} (hk : Evo rb m m' V' V2) (hm : ∀ k, m.mut rb k → k = rb ∨ V.heap.size ≤ k) : Rest rb V V2 :=
  ⟨hk.os.trans h.os, hk.tape.trans h.tape, hk.output.trans h.output, Nat.le_trans h.size hk.size, fun k hlt hn => (hk.same k (Nat.lt_of_lt_of_le hlt h.size) (fun hx => by rcases hm k hx with e | e; exact hn e; omega)).trans (h.same k hlt hn)⟩
def WholePost (rb B : Nat) (V : World) (pe : PEnd) (e : Ending) (V' : World) : Prop :=
  e = .returned (.tuple #[]) ∧ Rest rb V V' ∧ ∃ f0 f1 f2 f3 x0 x1 vo, V'.heap[rb]? = some (.cells #[f0, f1, f2, f3, x0, x1, .int .i64 pe.kind, .int .i64 pe.n, vo, .int .i64 pe.steps] 62 (0, 0)) ∧ V'.ownsRow B 3 1 vo pe.out.length (pe.out.map (Value.int .i64))

def m0 : Mem := ⟨[], [], .slice none 0 0⟩
theorem m0_mut {rb k : Nat} (h : m0.mut rb k) : k = rb := by
  rcases h with h | h | h
  · exact h
  · simp [m0, Value.ownBlock] at h
  · simp [m0] at h

end Go.Proofs.Ytnobggabjpcbfaa

/-
  The flat evaluator: all of a run.
-/
set_option linter.unusedVariables false
set_option linter.unusedSimpArgs false
namespace Go.Proofs.Ytnobggabjpcbfaa
open Go.RowKit

/-- how the body ends -/
def AllPost (rb B : Nat) (p : FlatP) (inp : List Int) (fuel : Nat) (V : World) (o : FOut) (en : Ending) (V' : World) : Prop :=
  (∃ v s' m' g, o = (.val v, s') ∧ en = .returned g ∧ Evo rb m0 m' V V' ∧ Good rb B p inp fuel s' m' V') ∨ (∃ ch, en = .panicked ch ∧ EvPost rb B p inp fuel m0 V o (.panicked ch) V')

set_option maxRecDepth 100000 in
set_option maxHeartbeats 2000000 in
theorem whole_any {rb B : Nat} {p : FlatP} {inp : List Int} {fuel n : Nat} {V : World} (hg : Good rb B p inp fuel (initF fuel) m0 V) (hwf : ∀ g ∈ p.funs, WfA p.funs.length g.body) (hwm : WfA p.funs.length p.main) (hn : fuel < n) :
    Calls Try.prog 22 #[.pointer (some ⟨rb, 0, none⟩)] V (WholePost rb B V (endF fuel (evF p.funs inp n p.main [] (initF fuel)))) := by
  have hb1 : Below V.heap.size V (V.alloc (.cells #[.pointer (some ⟨rb, 0, none⟩)] 60)) := (Below.refl _ _).alloc (Nat.le_refl _) _
  have hg1 := hg.below hb1
  have hrbl := hg.mutLt (k := rb) (.inl rfl)
  have aV := at_new (fun k hk => hg.mutLt hk) #[.pointer (some ⟨rb, 0, none⟩)] 60
  obtain ⟨f0, f1, f2, f3, Ai, ci, hr, hfl, -, -⟩ := hg1.run
  obtain ⟨Af, cf, b2, o2, mm0, mm1, mm2, hv, k1, k2, k3, k4, k5⟩ := hfl
  simp only [Array.mk.injEq, List.cons.injEq, and_true] at hv
  obtain ⟨rfl, rfl, rfl, rfl⟩ := hv
  obtain ⟨A0, d0, bb0, oo0, hvv, -⟩ := k3.at_
  simp only [Array.mk.injEq, List.cons.injEq, and_true] at hvv
  obtain ⟨rfl, rfl, rfl⟩ := hvv
  have r1 : (V.alloc (.cells #[.pointer (some ⟨rb, 0, none⟩)] 60)).cell? ⟨rb, 1, none⟩ = some (.slice A0 p.main.len d0) := by simp [World.cell?, hr]
  have r2 : (V.alloc (.cells #[.pointer (some ⟨rb, 0, none⟩)] 60)).cell? ⟨rb, 2, none⟩ = some (.bool p.main.last.v) := by simp [World.cell?, hr]
  have r3 : (V.alloc (.cells #[.pointer (some ⟨rb, 0, none⟩)] 60)).cell? ⟨rb, 3, none⟩ = some (.int .i64 p.main.last.n) := by simp [World.cell?, hr]
  have r0 : (V.alloc (.cells #[.pointer (some ⟨rb, 0, none⟩)] 60)).cell? ⟨V.heap.size, 0, none⟩ = some (.pointer (some ⟨rb, 0, none⟩)) := by rw [World.cell?_alloc_at _ _ _ _ rfl]; rfl
  have HC := Lib.hid (fun (V2 : World) (hV : Below (V.alloc (.cells #[.pointer (some ⟨rb, 0, none⟩)] 60)).heap.size (V.alloc (.cells #[.pointer (some ⟨rb, 0, none⟩)] 60)) V2) =>
    (body_ok rb B p inp fuel hwf n p.main [] (initF fuel) m0 V2 _ (.pointer none) (k3.kept (hV.mono hg1.Bs)) hwm .nil (hg1.below hV) (show (initF fuel).left < n from hn)).mono (R' := AllPost rb B p inp fuel (V.alloc (.cells #[.pointer (some ⟨rb, 0, none⟩)] 60)) (evF p.funs inp n p.main [] (initF fuel))) fun en V' h => by
      rcases (h.from_ (Evo.below hV)).inv with ⟨v, s', m', T, x, h1, rfl, h3, h4, _⟩ | ⟨ch, rfl, h2, h3, _⟩
      · exact .inl ⟨v, s', m', _, h1, rfl, h3, h4⟩
      · exact .inr ⟨ch, rfl, h3⟩)
  have hR1 : Rest rb V (V.alloc (.cells #[.pointer (some ⟨rb, 0, none⟩)] 60)) := (Rest.refl _ _).alloc _
  have hmm : ∀ k, m0.mut rb k → k = rb ∨ V.heap.size ≤ k := fun k hk => .inl (m0_mut hk)
  generalize evF p.funs inp n p.main [] (initF fuel) = o at *
  clear hg hwf hwm hn hb1 hg1 hr k1 k2 k3 k4 k5
  generalize p.main.len = ml at *
  generalize p.main.last.v = mv at *
  generalize p.main.last.n = mn at *
  go_enter_defers Try.func22, Try.ntmps22
  go_wp2_with fail
  obtain ⟨V1, hV1⟩ : ∃ V1, V.alloc (.cells #[.pointer (some ⟨rb, 0, none⟩)] 60) = V1 := ⟨_, rfl⟩
  rw [hV1] at r0 r1 r2 r3 ⊢
  have e0 : V1.drew.cell? ⟨V.heap.size, 0, none⟩ = some (.pointer (some ⟨rb, 0, none⟩)) := r0
  have e1 : V1.drew.cell? ⟨rb, 1, none⟩ = some (.slice A0 ml d0) := r1
  have e2 : V1.drew.cell? ⟨rb, 2, none⟩ = some (.bool mv) := r2
  have e3 : V1.drew.cell? ⟨rb, 3, none⟩ = some (.int .i64 mn) := r3
  have HCD := Lib.hid (HC.out V1.drew (by rw [hV1]; exact (Below.refl _ _).drew))
  refine wp_region_still_tail 6 (by kernel_rfl) (by kernel_rfl) ?_
  change wpStill _ _ V1.drew _ _ _
  simp only [List.take_succ_cons, List.take_zero, List.drop_succ_cons, List.drop_zero]
  repeat still_step
  try refine wpStill_nil ?_
  go_wp2_with fail
  refine HCD.out.mono ?_
  -- what the closure finds
  have hfind : ∀ (s' : FSt) (m' : Mem) (V2 : World), Evo rb m0 m' (V.alloc (.cells #[.pointer (some ⟨rb, 0, none⟩)] 60)) V2 → Good rb B p inp fuel s' m' V2 →
      V2.cell? ⟨V.heap.size, 0, none⟩ = some (.pointer (some ⟨rb, 0, none⟩)) ∧ (∃ f0 f1 f2 f3 x0 x1, V2.heap[rb]? = some (.cells #[f0, f1, f2, f3, x0, x1, .int .i64 0, .int .i64 0, m'.vo, .int .i64 ((fuel - s'.left : Nat) : Int)] 62 (0, 0))) ∧
      Rest rb V V2 ∧ V2.ownsRow B 3 1 m'.vo s'.out.length (s'.out.map (Value.int .i64)) ∧ m'.vo.ownBlock ≠ some rb := fun s' m' V2 hk hg' => by
    obtain ⟨f0, f1, f2, f3, Ai, ci, hr, _⟩ := hg'.run
    have hl := hg'.left
    refine ⟨at_cell0 (aV.evo hk) rfl, ⟨_, _, _, _, _, _, by rw [hr, show ((fuel - s'.left : Nat) : Int) = (fuel : Int) - s'.left by omega]⟩, hR1.evo hk hmm, hg'.out, hg'.rbo⟩
  -- how a store into the record leaves the row of ints
  have hrow : ∀ (V2 : World) (vo v : Value) (k o : Nat) (xs : List Value), V2.ownsRow B 3 1 vo k xs → vo.ownBlock ≠ some rb → (V2.setCell ⟨rb, o, none⟩ v).ownsRow B 3 1 vo k xs := fun V2 vo v k o xs h hne =>
    h.kept (row := some rb) ⟨rfl, rfl, rfl, by simp [World.setCell], fun i hi h => heap_set_ne (fun e => h (by rw [e])) _ _⟩ (.inr hne)
  have halo : ∀ (V2 : World) (o : Obj), rb < V2.heap.size → (V2.alloc o).heap[rb]? = V2.heap[rb]? := fun V2 o h => ((Below.refl V2.heap.size V2).alloc (Nat.le_refl _) o).block rb h
  intro en V2 h
  rcases h with ⟨v, s', m', g, rfl, rfl, hk, hg'⟩ | ⟨ch, rfl, hp⟩
  · obtain ⟨f1, ⟨y0, y1, y2, y3, x0, x1, f2⟩, f3, f4, f5⟩ := hfind s' m' V2 hk hg'
    have q2 : V2.cell? ⟨rb, 6, none⟩ = some (.int .i64 0) := by simp [World.cell?, f2]
    have z2 : V2.frozen? ⟨rb, 6, none⟩ = false := by simp [World.frozen?, f2]
    have HP := Lib.hid (show WholePost rb B V (endF fuel (.val v, s')) (.returned (.tuple #[])) (V2.setCell ⟨rb, 6, none⟩ (.int .i64 1)) from
      ⟨rfl, f3.set _ _, y0, y1, y2, y3, x0, x1, m'.vo, by rw [heap_set_self f2]; rfl, hrow _ _ _ _ _ _ f4 f5⟩)
    clear hfind hrow halo hk hg' f3 f4 f5
    go_wp2_with fail
    refine leaves_cons (f := 34) (args := #[.pointer (some ⟨V.heap.size, 0, none⟩)]) (by simp) (by simp [go_sem]) ?_
    refine (whole1_idle _ rb (.nilIface) _ f1 q2 z2).mono ?_
    rintro e u' w'' ⟨rfl, rfl, rfl⟩
    simp [Leaves, settle, results, Try.results22, go_sem]
    exact HP.out
  · cases hp with
    | @raised v s' m' _ g _ hk hg' hv hkey hth =>
      obtain ⟨older, rfl, hold⟩ := hth
      obtain ⟨key, hkey⟩ := hkey
      obtain ⟨T, y, rfl⟩ := hv.shape
      obtain ⟨f1, ⟨y0, y1, y2, y3, x0, x1, f2⟩, f3, f4, f5⟩ := hfind s' m' V2 hk hg'
      have q2 : V2.cell? ⟨rb, 6, none⟩ = some (.int .i64 0) := by simp [World.cell?, f2]
      have z2 : V2.frozen? ⟨rb, 6, none⟩ = false := by simp [World.frozen?, f2]
      have q3 : V2.cell? ⟨rb, 7, none⟩ = some (.int .i64 0) := by simp [World.cell?, f2]
      have z3 : V2.frozen? ⟨rb, 7, none⟩ = false := by simp [World.frozen?, f2]
      have hv4 : RepV rb m' ((V2.setCell ⟨rb, 6, none⟩ (.int .i64 4)).alloc (.cells #[.iface T y] 80)) v (.iface T y) := (hv.evo (Evo.setCell V2 6 _ (.inl rfl))).evo (Evo.alloc _ _ _ _)
      have hK := (key_any hv4).mono (R' := fun e w' => e = .returned (.int .i64 key) ∧ (V2.setCell ⟨rb, 6, none⟩ (.int .i64 4)).alloc (.cells #[.iface T y] 80) = w') (by
        rintro e w' (⟨n, hn, rfl, rfl⟩ | ⟨hn, rfl, rfl⟩)
        · rw [hkey] at hn; cases hn; exact ⟨rfl, rfl⟩
        · rw [hkey] at hn; cases hn)
      have hrb2 : rb < V2.heap.size := (Array.getElem?_eq_some_iff.1 f2).1
      have hs1 : ((V2.setCell ⟨rb, 6, none⟩ (.int .i64 4)).alloc (.cells #[.iface T y] 80)).heap[rb]? = some (.cells #[y0, y1, y2, y3, x0, x1, .int .i64 4, .int .i64 0, m'.vo, .int .i64 ((fuel - s'.left : Nat) : Int)] 62 (0, 0)) := by
        rw [halo _ _ (by simpa [World.setCell] using hrb2), heap_set_self f2]; rfl
      have ho1 := (hrow _ _ (.int .i64 4) _ 6 _ f4 f5).alloc (.cells #[.iface T y] 80)
      have hr1 := (f3.set 6 (.int .i64 4)).alloc (.cells #[.iface T y] 80)
      refine leaves_cons (f := 34) (args := #[.pointer (some ⟨V.heap.size, 0, none⟩)]) (by simp) (by simp [go_sem]) ?_
      refine (whole1_raised _ rb key T y older _ f1 q2 z2 q3 z3 (by omega) hK).mono ?_
      rintro e u' w'' ⟨rfl, rfl, rfl⟩
      show Leaves _ _ _ _ [] (settle _) _
      rw [settle_thrown hold]
      by_cases hk0 : 0 ≤ key
      · have he : endF fuel (.raised v, s') = ⟨2, key, s'.out, fuel - s'.left⟩ := by simp [endF, hkey, hk0]
        rw [if_pos hk0, he]
        simp only [Leaves, results, Try.results22]
        refine ⟨.tuple #[], by simp, rfl, (hr1.set _ _).set _ _, y0, y1, y2, y3, x0, x1, m'.vo, ?_, hrow _ _ _ _ _ _ (hrow _ _ _ _ _ _ ho1 f5) f5⟩
        have h2 := heap_set_self hs1 6 (.int .i64 2)
        rw [heap_set_self h2]
        rfl
      · have he : endF fuel (.raised v, s') = ⟨4, 0, s'.out, fuel - s'.left⟩ := by simp [endF, hkey, hk0]
        rw [if_neg hk0, he]
        simp only [Leaves, results, Try.results22]
        exact ⟨.tuple #[], by simp, rfl, hr1, y0, y1, y2, y3, x0, x1, m'.vo, hs1, ho1⟩
    | @stuck s' m' _ _ hk hg' hth =>
      obtain ⟨older, rfl, hold⟩ := hth
      obtain ⟨f1, ⟨y0, y1, y2, y3, x0, x1, f2⟩, f3, f4, f5⟩ := hfind s' m' V2 hk hg'
      have q2 : V2.cell? ⟨rb, 6, none⟩ = some (.int .i64 0) := by simp [World.cell?, f2]
      have z2 : V2.frozen? ⟨rb, 6, none⟩ = false := by simp [World.frozen?, f2]
      refine leaves_cons (f := 34) (args := #[.pointer (some ⟨V.heap.size, 0, none⟩)]) (by simp) (by simp [go_sem]) ?_
      refine (whole1_stop _ rb 4 older _ f1 q2 z2).mono ?_
      rintro e u' w'' ⟨rfl, rfl, rfl⟩
      show Leaves _ _ _ _ [] (settle _) _
      rw [settle_thrown hold]
      simp only [Leaves, results, Try.results22]
      refine ⟨.tuple #[], by simp, rfl, (f3.alloc _).set _ _, y0, y1, y2, y3, x0, x1, m'.vo, ?_, hrow _ _ _ _ _ _ (f4.alloc _) f5⟩
      rw [heap_set_self ((halo V2 _ (Array.getElem?_eq_some_iff.1 f2).1).trans f2)]; rfl
    | @cut s' m' _ _ hk hg' hth =>
      obtain ⟨older, rfl, hold⟩ := hth
      obtain ⟨f1, ⟨y0, y1, y2, y3, x0, x1, f2⟩, f3, f4, f5⟩ := hfind s' m' V2 hk hg'
      have q2 : V2.cell? ⟨rb, 6, none⟩ = some (.int .i64 0) := by simp [World.cell?, f2]
      have z2 : V2.frozen? ⟨rb, 6, none⟩ = false := by simp [World.frozen?, f2]
      refine leaves_cons (f := 34) (args := #[.pointer (some ⟨V.heap.size, 0, none⟩)]) (by simp) (by simp [go_sem]) ?_
      refine (whole1_stop _ rb 3 older _ f1 q2 z2).mono ?_
      rintro e u' w'' ⟨rfl, rfl, rfl⟩
      show Leaves _ _ _ _ [] (settle _) _
      rw [settle_thrown hold]
      simp only [Leaves, results, Try.results22]
      refine ⟨.tuple #[], by simp, rfl, (f3.alloc _).set _ _, y0, y1, y2, y3, x0, x1, m'.vo, ?_, hrow _ _ _ _ _ _ (f4.alloc _) f5⟩
      rw [heap_set_self ((halo V2 _ (Array.getElem?_eq_some_iff.1 f2).1).trans f2)]; rfl

end Go.Proofs.Ytnobggabjpcbfaa

/-
  Flat programs: the plain law of more fuel.
-/
set_option linter.unusedVariables false
set_option linter.unusedSimpArgs false
namespace Go.Proofs.Ytnobggabjpcbfaa

theorem endF_out (F : Nat) (o : FOut) : (endF F o).out = o.2.out := by
  obtain ⟨r, s⟩ := o
  cases r <;> simp [endF]
  split <;> rfl
end Go.Proofs.Ytnobggabjpcbfaa

/-
  The flat evaluator: feval.Run, clos.Right being known.
-/
set_option linter.unusedVariables false
set_option linter.unusedSimpArgs false
namespace Go.Proofs.Ytnobggabjpcbfaa
open Go.RowKit

/-- what a run's end is -/
def runE (p : FlatP) (inp : List Int) (f : Int) : PEnd := if rightC p = 0 then endF (fuelOf f) (runF p inp f) else ⟨4, 0, [], 0⟩
/-- a run's end in memory -/
def EndIn (B : Nat) (w : World) (pe : PEnd) (e : Ending) (w' : World) : Prop :=
  ∃ A c, e = .returned (.agg #[.int .i64 pe.kind, .int .i64 pe.n, .slice A pe.out.length c, .int .i64 pe.steps]) ∧ IntsIn w'.heap.size w' A pe.out ∧ pe.out.length ≤ c ∧ (∀ a, A = some a → B ≤ a.block) ∧ Below w.heap.size w w'
/-- the contract of clos.Right at a program -/
def RightSays (p : FlatP) : Prop := ∀ (W : World) (v : Array Value), FlatIn W.heap.size W p v → Calls Try.prog 21 #[.agg v] W fun e w' => e = .returned (.int .i64 (rightC p)) ∧ Below W.heap.size W w'
theorem FlatIn.shape {B : Nat} {w : World} {p : FlatP} {v : Array Value} (h : FlatIn B w p v) : ∃ A0 n0 d0 A1 n1 d1 b1 k1, v = #[.slice A0 n0 d0, .slice A1 n1 d1, .bool b1, .int .i64 k1] := by
  obtain ⟨Af, cf, b, o, m0, m1, m2, h1, h2, h3, h4, h5, h6⟩ := h
  obtain ⟨A1, c1, b1, o1, hv, -⟩ := h4.at_
  simp only [Array.mk.injEq, List.cons.injEq, and_true] at hv
  obtain ⟨rfl, rfl, rfl⟩ := hv
  exact ⟨_, _, _, _, _, _, _, _, h1⟩

set_option maxRecDepth 100000 in
set_option maxHeartbeats 2000000 in
theorem run_wrong {B : Nat} {W : World} {p : FlatP} {v : Array Value} (hin : FlatIn B W p v) (hB : B ≤ W.heap.size) (hrs : RightSays p) (inp f : Value) (hr : rightC p ≠ 0) :
    Calls Try.prog 9 #[.agg v, inp, f] W (EndIn B W ⟨4, 0, [], 0⟩) := by
  obtain ⟨A0, n0, d0, A1, n1, d1, b1, k1, rfl⟩ := hin.shape
  have hb1 : Below W.heap.size W ((W.alloc (.cells #[.slice A0 n0 d0, .slice A1 n1 d1, .bool b1, .int .i64 k1] 29)).alloc (.cells #[.int .i64 0, .int .i64 0, .slice none 0 0, .int .i64 0] 35)) := ((Below.refl _ _).alloc (Nat.le_refl _) _).alloc (by rw [World.size_alloc]; exact Nat.le_succ _) _
  have HR := Lib.hid (hrs _ _ ((hin.kept (hb1.mono hB)).mono (Nat.le_trans hB hb1.size)))
  have hrr : (rightC p == 0) = false := by simpa using hr
  have HB := Lib.hid hb1
  generalize rightC p = r at *
  clear hin hb1 hrs
  go_enter Try.func9, Try.ntmps9
  go_wp2_with fail
  refine HR.out.mono ?_
  rintro e w' ⟨rfl, hb2⟩
  have h31 : w'.heap[W.heap.size + 1]? = some (.cells #[.int .i64 0, .int .i64 0, .slice none 0 0, .int .i64 0] 35 (0, 0)) := (hb2.block (W.heap.size + 1) (by simp)).trans (two_new2 W _ _)
  have c0 : w'.cell? ⟨W.heap.size + 1, 0, none⟩ = some (.int .i64 0) := by simp [World.cell?, h31]
  have c1 : w'.cell? ⟨W.heap.size + 1, 1, none⟩ = some (.int .i64 0) := by simp [World.cell?, h31]
  have c2 : w'.cell? ⟨W.heap.size + 1, 2, none⟩ = some (.slice none 0 0) := by simp [World.cell?, h31]
  have c3 : w'.cell? ⟨W.heap.size + 1, 3, none⟩ = some (.int .i64 0) := by simp [World.cell?, h31]
  have fz : ∀ i, w'.frozen? ⟨W.heap.size + 1, i, none⟩ = false := fun i => by simp [World.frozen?, h31]
  have hb3 : Below W.heap.size W w' := HB.out.trans (hb2.mono HB.out.size)
  have HB3 := Lib.hid hb3
  clear hb2 hb3 h31
  go_wp2_with fail
  refine bodyPost_ret (v := .agg #[.int .i64 4, .int .i64 0, .slice none 0 0, .int .i64 0]) (by simp [results, Try.results9, go_sem, c0, c1, c2, c3]) rfl ?_
  refine ⟨none, 0, rfl, ⟨by simp, .inl rfl⟩, by simp, (by intro a h; cases h), ?_⟩
  exact (((HB3.out.setCell (p := ⟨_, _, none⟩) (Nat.le_succ _) _).setCell (p := ⟨_, _, none⟩) (Nat.le_succ _) _).setCell (p := ⟨_, _, none⟩) (Nat.le_succ _) _).setCell (p := ⟨_, _, none⟩) (Nat.le_succ _) _

theorem fuelOf_int (f : Int) : ((fuelOf f : Nat) : Int) = min (max f 0) 1000000 := by unfold fuelOf; omega
theorem fuelOf_le (f : Int) : fuelOf f ≤ 1000000 := by unfold fuelOf; omega
theorem own_ints {w : World} {base n : Nat} {e : TypeId} {v : Value} {xs : List Int} (h : w.ownsRow base e 1 v n (xs.map (Value.int .i64))) (hb : xs.length * 8 ≤ 140737488351232) :
    ∃ A c, v = .slice A xs.length c ∧ IntsIn w.heap.size w A xs ∧ xs.length ≤ c := by
  have hl : xs.length = n := by have := h.1; simpa using this
  rcases h.2 with ⟨rfl, h0⟩ | ⟨g, cap, cur, rfl, _, hg, hn, _⟩
  · refine ⟨none, 0, by rw [hl, h0], ⟨hb, .inl (List.length_eq_zero_iff.1 (by omega))⟩, by omega⟩
  · refine ⟨some ⟨g, 0, none⟩, cap, by rw [hl], ⟨hb, .inr ⟨g, 0, rfl, (h.lt g rfl).2, fun j hj => ?_⟩⟩, by omega⟩
    have := World.ownsRow.cells h (g := g) rfl j (.int .i64 (nth xs j)) (by simp [nth_eq _ hj, hj])
    have ha : (⟨g, 0, none⟩ : Addr).add j = ⟨g, 0 + j, none⟩ := by unfold Addr.add; split <;> simp_all
    rw [ha] at this
    exact this
theorem ownsRow_same {w w' : World} {base : Nat} {e : TypeId} {size : Nat} {v : Value} {n : Nat} {xs : List Value} (h : w.ownsRow base e size v n xs) (hk : ∀ k, v.ownBlock = some k → w'.heap[k]? = w.heap[k]?) : w'.ownsRow base e size v n xs := by
  refine ⟨h.1, ?_⟩
  rcases h.2 with h0 | ⟨g, cap, cur, rfl, h1, h2, h3⟩
  · exact .inl h0
  · exact .inr ⟨g, cap, cur, rfl, h1, (hk g rfl).trans h2, h3⟩

/-- a run's record as it is made -/
theorem good_start {B : Nat} {w V : World} {p : FlatP} {inp : List Int} {F : Nat} (hF : F ≤ 1000000) {v0 v1 v2 v3 : Value} (hfl : FlatIn B w p #[v0, v1, v2, v3]) {Ai : Option Addr} {ci : Nat} (hi : IntsIn B w Ai inp) (hci : inp.length ≤ ci) (hB : B ≤ w.heap.size)
    (hV : Below w.heap.size w V) (hr : V.heap[w.heap.size]? = some (.cells #[v0, v1, v2, v3, .slice Ai inp.length ci, .int .i64 F, .int .i64 0, .int .i64 0, .slice none 0 0, .int .i64 0] 62 (0, 0))) :
    Good w.heap.size B p inp F (initF F) m0 V :=
  ⟨Nat.le_trans hB hV.size, hB, Nat.le_refl _, hF, by simp [initF], ⟨v0, v1, v2, v3, Ai, ci, by simpa [initF, m0] using hr, hfl.kept (hV.mono hB), by simpa [initF] using hi.below (hV.mono hB), by simpa [initF] using hci⟩,
    ⟨by simp [initF], .inl ⟨rfl, rfl⟩⟩, rfl, by intro i h; simp [initF] at h, rfl, by intro i h; simp [initF] at h, by simp [m0], by simp [m0], by simp [m0, Value.ownBlock], by intro b h; simp [m0] at h, by intro b h; simp [m0] at h⟩

set_option maxRecDepth 100000 in
set_option maxHeartbeats 4000000 in
theorem run_right {B : Nat} {W : World} {p : FlatP} {v : Array Value} (hin : FlatIn B W p v) (hB : B ≤ W.heap.size) (hrs : RightSays p) {inp : List Int} {Ai : Option Addr} {ci : Nat} (hi : IntsIn B W Ai inp) (hci : inp.length ≤ ci) (f : Int) (hr : rightC p = 0) :
    Calls Try.prog 9 #[.agg v, .slice Ai inp.length ci, .int .i64 f] W (EndIn B W (endF (fuelOf f) (runF p inp f))) := by
  obtain ⟨A0, n0, d0, A1, n1, d1, b1, k1, rfl⟩ := hin.shape
  have hb1 : Below W.heap.size W ((W.alloc (.cells #[.slice A0 n0 d0, .slice A1 n1 d1, .bool b1, .int .i64 k1] 29)).alloc (.cells #[.int .i64 0, .int .i64 0, .slice none 0 0, .int .i64 0] 35)) := ((Below.refl _ _).alloc (Nat.le_refl _) _).alloc (by rw [World.size_alloc]; exact Nat.le_succ _) _
  have HR := Lib.hid (hrs _ _ ((hin.kept (hb1.mono hB)).mono (Nat.le_trans hB hb1.size)))
  have HWF := Lib.hid (wf_of_rightC hr)
  have HB := Lib.hid hb1
  have HI := Lib.hid hi
  have HIN := Lib.hid hin
  have hlen64 := hi.1
  obtain ⟨L, hL⟩ : ∃ L, inp.length = L := ⟨_, rfl⟩
  have HLL := Lib.hid hL
  rw [hL] at hci hlen64 ⊢
  rw [hr] at HR
  clear hin hb1 hi hL hrs
  go_enter Try.func9, Try.ntmps9
  go_wp2_with fail
  refine HR.out.mono ?_
  rintro e w' ⟨rfl, hb2⟩
  have h30 : w'.heap[W.heap.size]? = some (.cells #[.slice A0 n0 d0, .slice A1 n1 d1, .bool b1, .int .i64 k1] 29 (0, 0)) := (hb2.block W.heap.size (by simp; omega)).trans (two_new1 W _ _)
  have h31 : w'.heap[W.heap.size + 1]? = some (.cells #[.int .i64 0, .int .i64 0, .slice none 0 0, .int .i64 0] 35 (0, 0)) := (hb2.block (W.heap.size + 1) (by simp)).trans (two_new2 W _ _)
  have q0 : w'.cell? ⟨W.heap.size, 0, none⟩ = some (.slice A0 n0 d0) := by simp [World.cell?, h30]
  have q1 : w'.cell? ⟨W.heap.size, 1, none⟩ = some (.slice A1 n1 d1) := by simp [World.cell?, h30]
  have q2 : w'.cell? ⟨W.heap.size, 2, none⟩ = some (.bool b1) := by simp [World.cell?, h30]
  have q3 : w'.cell? ⟨W.heap.size, 3, none⟩ = some (.int .i64 k1) := by simp [World.cell?, h30]
  have hb3 : Below W.heap.size W w' := HB.out.trans (hb2.mono HB.out.size)
  have hsz : W.heap.size + 2 ≤ w'.heap.size := by have := hb2.size; simp at this; omega
  have HB3 := Lib.hid hb3
  have HC := Lib.hid (fun (X : Nat) (FI : Int) (V : World) (hX : X = (inp.take 4096).length) (hFI : FI = ((fuelOf f : Nat) : Int)) (hV : Below w'.heap.size w' V) (hrec : V.heap[w'.heap.size]? = some (.cells #[.slice A0 n0 d0, .slice A1 n1 d1, .bool b1, .int .i64 k1, .slice Ai X ci, .int .i64 FI, .int .i64 0, .int .i64 0, .slice none 0 0, .int .i64 0] 62 (0, 0))) =>
    (show Calls Try.prog 22 #[.pointer (some ⟨w'.heap.size, 0, none⟩)] V (WholePost w'.heap.size B V (endF (fuelOf f) (runF p inp f))) from by
      subst hX hFI
      have hbB := hb3.mono hB
      have hgood := good_start (fuelOf_le f) (HIN.out.kept hbB) ((HI.out.take 4096).below hbB) (by have := HLL.out; simp; omega) (Nat.le_trans hB hb3.size) hV hrec
      exact whole_any hgood HWF.out.1 HWF.out.2 (Nat.lt_succ_self _)))
  have HE := Lib.hid (fun (V V' : World) (hV : Below w'.heap.size w' V) (hVs : w'.heap.size + 1 ≤ V.heap.size) (hP : WholePost w'.heap.size B V (endF (fuelOf f) (runF p inp f)) (.returned (.tuple #[])) V') =>
    (show ∃ A k c, (V'.cell? ⟨w'.heap.size, 6, none⟩ = some (.int .i64 (endF (fuelOf f) (runF p inp f)).kind) ∧ V'.cell? ⟨w'.heap.size, 7, none⟩ = some (.int .i64 (endF (fuelOf f) (runF p inp f)).n) ∧
        V'.cell? ⟨w'.heap.size, 8, none⟩ = some (.slice A k c) ∧ V'.cell? ⟨w'.heap.size, 9, none⟩ = some (.int .i64 (endF (fuelOf f) (runF p inp f)).steps) ∧
        V'.cell? ⟨W.heap.size + 1, 0, none⟩ = some (.int .i64 0) ∧ V'.cell? ⟨W.heap.size + 1, 1, none⟩ = some (.int .i64 0) ∧ V'.cell? ⟨W.heap.size + 1, 2, none⟩ = some (.slice none 0 0) ∧ V'.cell? ⟨W.heap.size + 1, 3, none⟩ = some (.int .i64 0)) ∧
        (∀ i, V'.frozen? ⟨W.heap.size + 1, i, none⟩ = false) ∧
        ∀ V2, V'.heap.size ≤ V2.heap.size → V2.os = V'.os → V2.tape = V'.tape → V2.output = V'.output → (∀ k, k ≠ W.heap.size + 1 → V2.heap[k]? = V'.heap[k]?) →
          EndIn B W (endF (fuelOf f) (runF p inp f)) (.returned (.agg #[.int .i64 (endF (fuelOf f) (runF p inp f)).kind, .int .i64 (endF (fuelOf f) (runF p inp f)).n, .slice A k c, .int .i64 (endF (fuelOf f) (runF p inp f)).steps])) V2 from by
      obtain ⟨_, hrest, y0, y1, y2, y3, x0, x1, vo, hrec, hout⟩ := hP
      have h6 : V'.heap[W.heap.size + 1]? = some (.cells #[.int .i64 0, .int .i64 0, .slice none 0 0, .int .i64 0] 35 (0, 0)) := (hrest.same _ (by omega) (by omega)).trans ((hV.block _ (by omega)).trans h31)
      have hoL : (endF (fuelOf f) (runF p inp f)).out.length ≤ 1000000 := by
        rw [endF_out]
        have h1 := (evF_le p.funs (inp.take 4096) (fuelOf f + 1) p.main [] (initF (fuelOf f))).out
        have h2 := fuelOf_le f
        unfold runF
        simp [initF] at h1 ⊢
        omega
      have hvo : ∃ A k c, vo = .slice A k c := ownsRow_shape hout
      obtain ⟨A, k, c, rfl⟩ := hvo
      refine ⟨A, k, c, ⟨by simp [World.cell?, hrec], by simp [World.cell?, hrec], by simp [World.cell?, hrec], by simp [World.cell?, hrec], by simp [World.cell?, h6], by simp [World.cell?, h6], by simp [World.cell?, h6], by simp [World.cell?, h6]⟩, fun i => by simp [World.frozen?, h6], fun V2 e1 e2 e3 e4 e5 => ?_⟩
      have hout2 := ownsRow_same hout (w' := V2) (fun q hq => e5 q (by
        rintro rfl
        rcases hout.2 with ⟨h0, _⟩ | ⟨g, cap, cur, h0, _, hgg, _⟩
        · rw [h0] at hq; simp [Value.ownBlock] at hq
        · rw [h0] at hq; simp [Value.ownBlock] at hq
          subst hq
          have := hgg.symm.trans h6
          simp only [Option.some.injEq, Obj.cells.injEq] at this
          exact absurd this.2.1 (by decide)))
      obtain ⟨A', c', hA, hints, hc⟩ := own_ints hout2 (by omega)
      cases hA
      have hlo : ∀ a, A = some a → B ≤ a.block := fun a ha => by
        subst ha
        exact (hout2.lt a.block rfl).1
      refine ⟨A, c, rfl, hints, hc, hlo, ?_⟩
      have hbV : Below W.heap.size W V' := hb3.trans ⟨(hrest.os.trans hV.os), (hrest.tape.trans hV.tape), (hrest.output.trans hV.output), Nat.le_trans (Nat.le_trans (by omega) hV.size) hrest.size, fun q hq => (hrest.same q (by omega) (by omega)).trans (hV.block q (by omega))⟩
      exact ⟨e2.trans hbV.os, e3.trans hbV.tape, e4.trans hbV.output, Nat.le_trans hbV.size e1, fun q hq => (e5 q (by omega)).trans (hbV.block q hq)⟩))
  have hfi := fuelOf_int f
  have HFI := Lib.hid hfi
  have hls : W.heap.size < w'.heap.size := by omega
  clear hb2 hb3 h30 h31 hfi
  generalize endF (fuelOf f) (runF p inp f) = pe at *
  have hL0 : (0 : Int) ≤ min (L : Int) 4096 := by omega
  have hL1 : min (L : Int) 4096 ≤ (ci : Int) := by omega
  go_wp2_with fail
  go_region
  all_goals
    obtain ⟨FI, hFI⟩ : ∃ FI : Int, (if 1000000 < (if f < 0 then 0 else f) then 1000000 else (if f < 0 then 0 else f)) = FI := ⟨_, rfl⟩
    have HF2 := Lib.hid (show FI = ((fuelOf f : Nat) : Int) from by have := HFI.out; rw [← hFI]; split <;> split at * <;> omega)
    obtain ⟨X, hX⟩ : ∃ X : Nat, (if 4096 < (L : Int) then 4096 else (L : Int)).toNat = X := ⟨_, rfl⟩
    have HX2 := Lib.hid (show X = (inp.take 4096).length from by have := HLL.out; rw [← hX]; simp; split <;> omega)
    rw [hFI, hX]
    clear hFI hX
    obtain ⟨V, hV⟩ : ∃ V, (w'.alloc (.cells #[.slice A0 n0 d0, .slice A1 n1 d1, .bool b1, .int .i64 k1, .slice Ai X ci, .int .i64 FI, .int .i64 0, .int .i64 0, .slice none 0 0, .int .i64 0] 62)).drew = V := ⟨_, rfl⟩
    have hbV : Below w'.heap.size w' V := by rw [← hV]; exact ((Below.refl _ _).alloc (Nat.le_refl _) _).drew
    have hVr : V.heap[w'.heap.size]? = some (.cells #[.slice A0 n0 d0, .slice A1 n1 d1, .bool b1, .int .i64 k1, .slice Ai X ci, .int .i64 FI, .int .i64 0, .int .i64 0, .slice none 0 0, .int .i64 0] 62 (0, 0)) := by rw [← hV]; exact World.alloc_heap_new w' _
    have HCC := Lib.hid (HC.out X FI V HX2.out HF2.out hbV hVr)
    have HEE := Lib.hid (fun V' => HE.out V V' hbV ((Array.getElem?_eq_some_iff.1 hVr).1))
    rw [hV]
    clear hV hbV hVr HC HE q0 q1 q2 q3
    go_wp2_with fail
    all_goals
      refine HCC.out.mono ?_
      intro e V' hP
      obtain ⟨rfl, _⟩ := id hP
      obtain ⟨A, k, c, ⟨r2, r3, r4, r5, r60, r61, r62, r63⟩, rfz, hfin⟩ := HEE.out _ hP
      have HFIN := Lib.hid hfin
      clear hP hfin
      go_wp2_with fail
      refine bodyPost_ret (v := .agg #[.int .i64 pe.kind, .int .i64 pe.n, .slice A k c, .int .i64 pe.steps]) (by simp [results, Try.results9, go_sem, r60, r61, r62, r63]) rfl ?_
      refine HFIN.out _ (by simp [World.setCell]) rfl rfl rfl (fun q hq => ?_)
      rw [heap_set_ne hq, heap_set_ne hq, heap_set_ne hq, heap_set_ne hq]

theorem frun_any {B : Nat} {W : World} {p : FlatP} {v : Array Value} (hin : FlatIn B W p v) (hB : B ≤ W.heap.size) (hrs : RightSays p) {inp : List Int} {Ai : Option Addr} {ci : Nat} (hi : IntsIn B W Ai inp) (hci : inp.length ≤ ci) (f : Int) :
    Calls Try.prog 9 #[.agg v, .slice Ai inp.length ci, .int .i64 f] W (EndIn B W (runE p inp f)) := by
  unfold runE
  split
  · exact run_right hin hB hrs hi hci f (by assumption)
  · exact run_wrong hin hB hrs _ _ (by assumption)
end Go.Proofs.Ytnobggabjpcbfaa

/-
  Appends of rows that may be nil, in whatever order; rows of ints.
-/
set_option linter.unusedVariables false
set_option linter.unusedSimpArgs false
namespace Go.Proofs.Ytnobggabjpcbfaa
open Go.RowKit

theorem add_plain (b o j : Nat) : (⟨b, o, none⟩ : Addr).add j = ⟨b, o + j, none⟩ := by cases j <;> simp [Addr.add]
/-- a row's cells; nil: there are none -/
def RowI (w : World) (A : Option Addr) (news : List Value) : Prop := (A = none ∧ news = []) ∨ ∃ ad : Addr, A = some ad ∧ ∀ j u, news[j]? = some u → w.cell? (ad.add j) = some u
theorem grown_below {w w1 w2 : World} {row : Option Nat} (h : Below w.heap.size w w1) (hg : w1.grownBy w2 row) (hr : ∀ b, row = some b → w.heap.size ≤ b) : Below w.heap.size w w2 :=
  ⟨hg.os.trans h.os, hg.tape.trans h.tape, hg.output.trans h.output, Nat.le_trans h.size hg.size, fun i hi => (hg.block i (Nat.lt_of_lt_of_le hi h.size) (fun e => by have := hr i e.symm; omega)).trans (h.block i hi)⟩
theorem own_ge {w : World} {base : Nat} {e : TypeId} {size : Nat} {v : Value} {n : Nat} {xs : List Value} (h : w.ownsRow base e size v n xs) : ∀ b, v.ownBlock = some b → base ≤ b := by
  intro b hb
  rcases h.2 with ⟨rfl, _⟩ | ⟨g, cap, cur, rfl, hg, _⟩
  · simp [Value.ownBlock] at hb
  · simp [Value.ownBlock] at hb; omega

section
variable {P : Program} (w : World)
theorem run_append_none_any (base : Nat) (t ty e : TypeId) (i : TypeInfo) (size : Nat) (ht : P.underlying t = some (.slice e)) (hi : P.info? e = some i)
    (v : Value) (n c : Nat) (xs : List Value) (hown : w.ownsRow base e size v n xs) :
    (Builtin.append_ #[t, t] ty #[v, .slice none 0 c]).run P w = .ok v w := by
  rcases hown.2 with ⟨rfl, rfl⟩ | ⟨g, cap, cur, rfl, _, _, hnc, _⟩
  · simp [Builtin.append_, run_underlying ht, sizeOf, typeInfo, hi, Builtin.lenOf, Builtin.firstCells]
  · simp [Builtin.append_, run_underlying ht, sizeOf, typeInfo, hi, Builtin.lenOf, Builtin.firstCells, hnc, storeCells]
theorem wp_append_row {o : Oper} {a : Act} {K : Act → World → Prop} {Q : Exit → Act → World → Prop} (s x : Operand) (t : TypeId)
    (ho : o.op = .call { callee := .builtin .append, args := #[s, x], argTypes := #[t, t] })
    (base : Nat) (e : TypeId) (i : TypeInfo) (z : Value) (size bytes : Nat) (ht : P.underlying t = some (.slice e)) (hi : P.info? e = some i) (hz : i.zero = some z)
    (hsize : i.size = size) (hby : i.bytes = bytes) (hzs : z.cells.size = size) (hsz : 0 < size)
    (v : Value) (n : Nat) (xs : List Value) (hs : a.eval s = v) (hown : w.ownsRow base e size v n xs)
    (A : Option Addr) (m c : Nat) (news : List Value) (hx : a.eval x = .slice A m c) (hl : news.length = m * size) (hnews : RowI w A news) (h1 : ∀ u ∈ news, u.oneCell' = true)
    (h63 : n + m ≤ maxLen) (hbytes : (n + m) * bytes ≤ 140737488355328) (hbase : base ≤ w.heap.size)
    (h : ∀ v' w', w'.ownsRow base e size v' (n + m) (xs ++ news) → w.grownBy w' v.ownBlock → (v'.ownBlock = v.ownBlock ∨ v'.ownBlock = some w.heap.size) → K (a.put o.dst v') w') : o.wp P a w K Q := by
  rcases hnews with ⟨rfl, rfl⟩ | ⟨ad, rfl, hc⟩
  · have hm : m = 0 := by
      simp only [List.length_nil] at hl
      rcases Nat.mul_eq_zero.1 hl.symm with h0 | h0
      · exact h0
      · omega
    subst hm
    have hr := run_append_none_any (P := P) w base t o.type e i size ht hi v n c xs hown
    unfold Oper.wp execOp
    simp only [ho, resolve, invoke, builtin, Sem.run_bind, Sem.run_pure, Result.andThen_ok, List.map_toArray, List.map_cons, List.map_nil, hs, hx, hr]
    exact h v w (by simpa using hown) ⟨rfl, rfl, rfl, Nat.le_refl _, fun k _ _ => rfl⟩ (.inl rfl)
  · exact wp_append_at w s x t ho base e i z size bytes ht hi hz hsize hby hzs hsz v n xs hs hown ad m c news hx hl hc h1 h63 hbytes hbase h
theorem wpList_append_row {ops : Array Oper} {rest : List Oper} {o : Oper} {a : Act} {Q : Exit → Act → World → Prop} (hgd : o.guard = none) (s x : Operand) (t : TypeId)
    (ho : o.op = .call { callee := .builtin .append, args := #[s, x], argTypes := #[t, t] })
    (base : Nat) (e : TypeId) (i : TypeInfo) (z : Value) (size bytes : Nat) (ht : P.underlying t = some (.slice e)) (hi : P.info? e = some i) (hz : i.zero = some z)
    (hsize : i.size = size) (hby : i.bytes = bytes) (hzs : z.cells.size = size) (hsz : 0 < size)
    (v : Value) (n : Nat) (xs : List Value) (hs : a.eval s = v) (hown : w.ownsRow base e size v n xs)
    (A : Option Addr) (m c : Nat) (news : List Value) (hx : a.eval x = .slice A m c) (hl : news.length = m * size) (hnews : RowI w A news) (h1 : ∀ u ∈ news, u.oneCell' = true)
    (h63 : n + m ≤ maxLen) (hbytes : (n + m) * bytes ≤ 140737488355328) (hbase : base ≤ w.heap.size)
    (h : ∀ v' w', w'.ownsRow base e size v' (n + m) (xs ++ news) → w.grownBy w' v.ownBlock → (v'.ownBlock = v.ownBlock ∨ v'.ownBlock = some w.heap.size) → wpList P ops Q rest (a.put o.dst v') w') : wpList P ops Q (o :: rest) a w :=
  wpList_plain hgd fun K hK => wp_append_row w s x t ho base e i z size bytes ht hi hz hsize hby hzs hsz v n xs hs hown A m c news hx hl hnews h1 h63 hbytes hbase (fun v' w' h1 h2 h3 => hK _ _ (h v' w' h1 h2 h3))
end
theorem own_empty (w : World) {base : Nat} (h : base ≤ w.heap.size) (e : TypeId) (size : Nat) : (w.alloc (.cells #[] e)).ownsRow base e size (.slice (some ⟨w.heap.size, 0, none⟩) 0 0) 0 [] := World.ownsRow_lit w #[] 0 h (by simp [maxLen]) (by simp)
theorem own_size {w : World} {base : Nat} {e : TypeId} {size n m : Nat} {v : Value} {xs : List Value} (hn : m = n) (h : w.ownsRow base e size v n ([] ++ xs)) : w.ownsRow base e size v m xs := by subst hn; simpa using h
theorem own_lt_ {base : Nat} {e : TypeId} {size m : Nat} {v : Value} {xs : List Value} {w : World} (h : w.ownsRow base e size v m xs) : ∀ b, v.ownBlock = some b → b < w.heap.size := by
  intro b hb
  rcases h.2 with ⟨rfl, _⟩ | ⟨g, cap, cur, rfl, hg, hc, _⟩
  · simp [Value.ownBlock] at hb
  · simp [Value.ownBlock] at hb
    subst hb
    exact (Array.getElem?_eq_some_iff.1 hc).1
abbrev iv (ks : List Int) : List Value := ks.map (fun n => Value.int .i64 n)
theorem iv_at (ks : List Int) (j : Nat) (u : Value) : (iv ks)[j]? = some u → j < ks.length ∧ u = .int .i64 (nth ks j) := by
  intro h
  rw [List.getElem?_map] at h
  cases hj : ks[j]? with
  | none => rw [hj] at h; cases h
  | some x =>
    rw [hj] at h
    have hlt := (List.getElem?_eq_some_iff.1 hj).1
    refine ⟨hlt, ?_⟩
    simp only [Option.map_some, Option.some.injEq] at h
    rw [← h]
    unfold nth
    rw [hj]; rfl
theorem iv_one (ks : List Int) : ∀ u ∈ iv ks, u.oneCell' = true := by
  intro u hu
  obtain ⟨x, -, rfl⟩ := List.mem_map.1 hu
  rfl
theorem ints_row {B : Nat} {w : World} {A : Option Addr} {ks : List Int} (h : IntsIn B w A ks) : RowI w A (iv ks) := by
  rcases h.2 with rfl | ⟨b, o, rfl, hb, hc⟩
  · rcases A with _ | ad
    · exact .inl ⟨rfl, rfl⟩
    · exact .inr ⟨_, rfl, by simp [iv]⟩
  · refine .inr ⟨_, rfl, fun j u hj => ?_⟩
    obtain ⟨h1, rfl⟩ := iv_at ks j u hj
    rw [add_plain]
    exact hc j h1
end Go.Proofs.Ytnobggabjpcbfaa

/-
  Drawn regions: what is known of a world whose blocks are made and turned in whatever order.
-/
set_option linter.unusedVariables false
set_option linter.unusedSimpArgs false
namespace Go.Proofs.Ytnobggabjpcbfaa
open Go.RowKit Go.Proofs.YtnobggabjpcbfaaW.PrintLast

/-- what is said of a world, and the blocks that it stands on -/
structure FactW where
  P : World → Prop
  F : Nat → Prop
  st : ∀ w w', P w → w.heap.size ≤ w'.heap.size → (∀ k, F k → w'.heap[k]? = w.heap[k]?) → P w'
def nilFa : FactW := ⟨fun _ => True, fun _ => False, fun _ _ _ _ _ => trivial⟩
/-- what holds, by what is listed: each fact where its condition does; what they stand on is new, and no two share a block -/
structure Reg (V : World) (c : List Bool) (f : List FactW) (w : World) : Prop where
  bel : Below V.heap.size V w
  hold : ∀ i : Nat, c[i]?.getD false = true → (f[i]?.getD nilFa).P w ∧ ∀ k, (f[i]?.getD nilFa).F k → V.heap.size ≤ k ∧ k < w.heap.size
  apart : ∀ i j : Nat, i ≠ j → c[i]?.getD false = true → c[j]?.getD false = true → ∀ k, (f[i]?.getD nilFa).F k → (f[j]?.getD nilFa).F k → False
/-- a change that turns no old block but some -/
structure Chg (w w' : World) (M : Nat → Prop) : Prop where
  os : w'.os = w.os
  tape : w'.tape = w.tape
  output : w'.output = w.output
  size : w.heap.size ≤ w'.heap.size
  block : ∀ k, k < w.heap.size → ¬ M k → w'.heap[k]? = w.heap[k]?
theorem Chg.none {w w' : World} (h : Below w.heap.size w w') : Chg w w' (fun _ => False) := ⟨h.os, h.tape, h.output, h.size, fun k hk _ => h.block k hk⟩
theorem Chg.own {w w' : World} {v : Value} (h : w.grownBy w' v.ownBlock) : Chg w w' (fun k => v.ownBlock = some k) := ⟨h.os, h.tape, h.output, h.size, fun k hk hn => h.block k hk (fun e => hn e.symm)⟩
theorem Reg.start {V w : World} {c : List Bool} {f : List FactW} (hb : Below V.heap.size V w) (hc : ∀ i : Nat, c[i]?.getD false = false) : Reg V c f w :=
  ⟨hb, fun i h => Bool.noConfusion ((hc i).symm.trans h), fun i _ _ h => Bool.noConfusion ((hc i).symm.trans h)⟩
theorem Reg.step {V w w' : World} {c c' : List Bool} {f f' : List FactW} (h : Reg V c f w) {M : Nat → Prop} (hg : Chg w w' M) (src new : Nat) (hM : ∀ k, M k → c[src]?.getD false = true ∧ (f[src]?.getD nilFa).F k)
    (hk : ∀ j : Nat, j ≠ new → c'[j]?.getD false = true → c[j]?.getD false = true ∧ f'[j]?.getD nilFa = f[j]?.getD nilFa ∧ j ≠ src)
    (hn : (f'[new]?.getD nilFa).P w' ∧ ∀ k, (f'[new]?.getD nilFa).F k → k < w'.heap.size ∧ (w.heap.size ≤ k ∨ c[src]?.getD false = true ∧ (f[src]?.getD nilFa).F k)) : Reg V c' f' w' := by
  have hMV : ∀ k, M k → V.heap.size ≤ k := fun k hk => ((h.hold src (hM k hk).1).2 k (hM k hk).2).1
  have hnew : ∀ k, (f'[new]?.getD nilFa).F k → V.heap.size ≤ k := fun k hk => by
    rcases (hn.2 k hk).2 with h1 | ⟨h1, h2⟩
    · exact Nat.le_trans h.bel.size h1
    · exact ((h.hold src h1).2 k h2).1
  have hold : ∀ j : Nat, j ≠ new → c'[j]?.getD false = true → ∀ k, (f'[j]?.getD nilFa).F k → V.heap.size ≤ k ∧ k < w.heap.size ∧ ¬ M k := fun j hj hc k hF => by
    obtain ⟨h1, h2, h3⟩ := hk j hj hc
    rw [h2] at hF
    obtain ⟨g1, g2⟩ := (h.hold j h1).2 k hF
    exact ⟨g1, g2, fun hm => h.apart j src h3 h1 (hM k hm).1 k hF (hM k hm).2⟩
  have cross : ∀ j : Nat, j ≠ new → c'[j]?.getD false = true → ∀ k, (f'[j]?.getD nilFa).F k → (f'[new]?.getD nilFa).F k → False := fun j hj hc k hF hG => by
    obtain ⟨h1, h2, h3⟩ := hk j hj hc
    have g := hold j hj hc k hF
    rcases (hn.2 k hG).2 with k1 | ⟨k1, k2⟩
    · omega
    · rw [h2] at hF
      exact h.apart j src h3 h1 k1 k hF k2
  refine ⟨⟨hg.os.trans h.bel.os, hg.tape.trans h.bel.tape, hg.output.trans h.bel.output, Nat.le_trans h.bel.size hg.size, fun k hk' => (hg.block k (Nat.lt_of_lt_of_le hk' h.bel.size) (fun hm => by have := hMV k hm; omega)).trans (h.bel.block k hk')⟩, fun j hc => ?_, fun i j hij hi hj k hF hG => ?_⟩
  · by_cases hj : j = new
    · subst hj
      exact ⟨hn.1, fun k hF => ⟨hnew k hF, (hn.2 k hF).1⟩⟩
    · obtain ⟨h1, h2, h3⟩ := hk j hj hc
      refine ⟨?_, fun k hF => ?_⟩
      · rw [h2]
        exact (f[j]?.getD nilFa).st w w' (h.hold j h1).1 hg.size (fun k hF => hg.block k ((h.hold j h1).2 k hF).2 (fun hm => h.apart j src h3 h1 (hM k hm).1 k hF (hM k hm).2))
      · obtain ⟨g1, g2, _⟩ := hold j hj hc k hF
        exact ⟨g1, Nat.lt_of_lt_of_le g2 hg.size⟩
  · by_cases h1 : i = new
    · subst h1
      exact cross j (Ne.symm hij) hj k hG hF
    · by_cases h2 : j = new
      · subst h2
        exact cross i h1 hi k hF hG
      · obtain ⟨a1, a2, a3⟩ := hk i h1 hi
        obtain ⟨b1, b2, b3⟩ := hk j h2 hj
        rw [a2] at hF
        rw [b2] at hG
        exact h.apart i j hij a1 b1 k hF hG
/-! ### facts -/
def ownFa (base : Nat) (e : TypeId) (size : Nat) (v : Value) (n : Nat) (xs : List Value) : FactW := ⟨fun w => w.ownsRow base e size v n xs, fun k => v.ownBlock = some k, fun _ _ h _ hk => ownsRow_same h (fun k hk' => hk k hk')⟩
def blkFa (X : Nat) (o : Obj) : FactW := ⟨fun w => w.heap[X]? = some o, fun k => k = X, fun _ _ h _ hk => (hk X rfl).trans h⟩
theorem ints_st {w w' : World} {A : Option Addr} {ks : List Int} (h : IntsIn w.heap.size w A ks) (hs : w.heap.size ≤ w'.heap.size) (hk : ∀ k, (ks ≠ [] ∧ ∃ a, A = some a ∧ a.block = k) → w'.heap[k]? = w.heap[k]?) : IntsIn w'.heap.size w' A ks := by
  refine ⟨h.1, ?_⟩
  by_cases h0 : ks = []
  · exact .inl h0
  · rcases h.2 with h1 | ⟨b, o, rfl, hlt, hc⟩
    · exact absurd h1 h0
    · exact .inr ⟨b, o, rfl, Nat.lt_of_lt_of_le hlt hs, fun j hj => (cell_of_heap (hk b ⟨h0, _, rfl, rfl⟩) _).trans (hc j hj)⟩
def intsFa (A : Option Addr) (ks : List Int) : FactW := ⟨fun w => IntsIn w.heap.size w A ks, fun k => ks ≠ [] ∧ ∃ a, A = some a ∧ a.block = k, fun _ _ h hs hk => ints_st h hs hk⟩
theorem ints_foot {w : World} {A : Option Addr} {ks : List Int} {n : Nat} (h : IntsIn w.heap.size w A ks) (hlo : ∀ a, A = some a → n ≤ a.block) : ∀ k, (intsFa A ks).F k → k < w.heap.size ∧ n ≤ k := by
  rintro k ⟨h0, a, rfl, rfl⟩
  rcases h.2 with h1 | ⟨b, o, h1, hlt, _⟩
  · exact absurd h1 h0
  · cases h1; exact ⟨hlt, hlo _ rfl⟩
/-! ### steps -/
def Kept (c c' : List Bool) (f f' : List FactW) (new : Nat) : Prop := ∀ j : Nat, j ≠ new → c'[j]?.getD false = true → c[j]?.getD false = true ∧ f'[j]?.getD nilFa = f[j]?.getD nilFa
def KeptBut (c c' : List Bool) (f f' : List FactW) (src new : Nat) : Prop := ∀ j : Nat, j ≠ new → c'[j]?.getD false = true → c[j]?.getD false = true ∧ f'[j]?.getD nilFa = f[j]?.getD nilFa ∧ j ≠ src
section
variable {V w w' : World} {c c' : List Bool} {f f' : List FactW}
/-- what was not there stands in new blocks -/
theorem Reg.call (h : Reg V c f w) (new : Nat) (hb : Below w.heap.size w w') (hn : (f'[new]?.getD nilFa).P w' ∧ ∀ k, (f'[new]?.getD nilFa).F k → k < w'.heap.size ∧ w.heap.size ≤ k)
    (hk : Kept c c' f f' new) : Reg V c' f' w' := by
  refine h.step (Chg.none hb) c.length new (fun k hk => hk.elim) (fun j hj hc => ⟨(hk j hj hc).1, (hk j hj hc).2, ?_⟩) ⟨hn.1, fun k hF => ⟨(hn.2 k hF).1, .inl (hn.2 k hF).2⟩⟩
  rintro rfl
  have := (hk _ hj hc).1
  simp at this
/-- ints that a call lays into new blocks -/
theorem Reg.ints (h : Reg V c f w) (new : Nat) {A : Option Addr} {ks : List Int} (hb : Below w.heap.size w w') (hf : f'[new]?.getD nilFa = intsFa A ks) (hi : IntsIn w'.heap.size w' A ks) (hlo : ∀ a, A = some a → w.heap.size ≤ a.block) (hk : Kept c c' f f' new) : Reg V c' f' w' := by
  refine h.call new hb ?_ hk
  rw [hf]
  exact ⟨hi, ints_foot hi hlo⟩
/-- a new block -/
theorem Reg.new (h : Reg V c f w) (new : Nat) {o : Obj} (hf : f'[new]?.getD nilFa = blkFa w.heap.size o) (hk : Kept c c' f f' new) : Reg V c' f' (w.alloc o) := by
  refine h.call new ((Below.refl _ _).alloc (Nat.le_refl _) _) ?_ hk
  rw [hf]
  exact ⟨World.alloc_heap_new w o, fun k hk => by cases hk; exact ⟨by simp, Nat.le_refl _⟩⟩
/-- an empty row -/
theorem Reg.row0 (h : Reg V c f w) (new : Nat) {e : TypeId} {size : Nat} (hf : f'[new]?.getD nilFa = ownFa V.heap.size e size (.slice (some ⟨w.heap.size, 0, none⟩) 0 0) 0 []) (hk : Kept c c' f f' new) : Reg V c' f' (w.alloc (.cells #[] e)) := by
  refine h.call new ((Below.refl _ _).alloc (Nat.le_refl _) _) ?_ hk
  rw [hf]
  refine ⟨own_empty w h.bel.size e size, fun k hk => ?_⟩
  have : k = w.heap.size := by
    change some w.heap.size = some k at hk
    cases hk; rfl
  subst this
  exact ⟨by simp, Nat.le_refl _⟩
/-- an append -/
theorem Reg.app (h : Reg V c f w) (src new : Nat) {base : Nat} {e : TypeId} {size n : Nat} {v v' : Value} {xs : List Value} (hc : c[src]?.getD false = true) (hs : f[src]?.getD nilFa = ownFa base e size v n xs) (hg : w.grownBy w' v.ownBlock) {m : Nat} {ys : List Value}
    (hf : f'[new]?.getD nilFa = ownFa base e size v' m ys) (hown : w'.ownsRow base e size v' m ys) (ho : v'.ownBlock = v.ownBlock ∨ v'.ownBlock = some w.heap.size) (hk : KeptBut c c' f f' src new) : Reg V c' f' w' := by
  refine h.step (Chg.own hg) src new (fun k hk => ⟨hc, by rw [hs]; exact hk⟩) hk ?_
  rw [hf, hs]
  refine ⟨hown, fun k hF => ⟨own_lt_ hown k hF, ?_⟩⟩
  rcases ho with h1 | h1
  · exact .inr ⟨hc, h1.symm.trans hF⟩
  · left
    have hF' : v'.ownBlock = some k := hF
    rw [h1] at hF'
    cases hF'
    exact Nat.le_refl _
/-- a block is turned -/
theorem Reg.turn (h : Reg V c f w) (src new : Nat) {X : Nat} {o o' : Obj} (hc : c[src]?.getD false = true) (hs : f[src]?.getD nilFa = blkFa X o) (hg : Chg w w' (fun k => k = X)) (hf : f'[new]?.getD nilFa = blkFa X o') (ho : w'.heap[X]? = some o') (hk : KeptBut c c' f f' src new) : Reg V c' f' w' := by
  refine h.step hg src new (fun k hk => ⟨hc, by rw [hs]; exact hk⟩) hk ?_
  rw [hf, hs]
  refine ⟨ho, fun k hF => ⟨?_, .inr ⟨hc, hF⟩⟩⟩
  cases hF
  exact (Array.getElem?_eq_some_iff.1 ho).1
end
/-! ### ends -/
def zeroC : Obj := .cells #[.int .i64 0, .int .i64 0, .slice none 0 0, .int .i64 0] 35 (0, 0)
def endC (pe : PEnd) (A : Option Addr) (c : Nat) : Obj := .cells #[.int .i64 pe.kind, .int .i64 pe.n, .slice A pe.out.length c, .int .i64 pe.steps] 35 (0, 0)
theorem zeroC_cells {V : World} {b : Nat} (h : V.heap[b]? = some zeroC) : V.cell? ⟨b, 0, none⟩ = some (.int .i64 0) ∧ V.cell? ⟨b, 1, none⟩ = some (.int .i64 0) ∧ V.cell? ⟨b, 2, none⟩ = some (.slice none 0 0) ∧ V.cell? ⟨b, 3, none⟩ = some (.int .i64 0) ∧ ∀ i, V.frozen? ⟨b, i, none⟩ = false := by
  unfold zeroC at h
  exact ⟨by simp [World.cell?, h], by simp [World.cell?, h], by simp [World.cell?, h], by simp [World.cell?, h], fun i => by simp [World.frozen?, h]⟩
def setE (w : World) (X : Nat) (pe : PEnd) (A : Option Addr) (c : Nat) : World :=
  (((w.setCell ⟨X, 0, none⟩ (.int .i64 pe.kind)).setCell ⟨X, 1, none⟩ (.int .i64 pe.n)).setCell ⟨X, 2, none⟩ (.slice A pe.out.length c)).setCell ⟨X, 3, none⟩ (.int .i64 pe.steps)
theorem setE_self {w : World} {X : Nat} (h : w.heap[X]? = some zeroC) (pe : PEnd) (A : Option Addr) (c : Nat) : (setE w X pe A c).heap[X]? = some (endC pe A c) := by
  unfold setE
  rw [heap_set_self (heap_set_self (heap_set_self (heap_set_self h 0 _) 1 _) 2 _) 3 _]; rfl
theorem chg_setE (w : World) (X : Nat) (pe : PEnd) (A : Option Addr) (c : Nat) : Chg w (setE w X pe A c) (fun k => k = X) := by
  refine ⟨rfl, rfl, rfl, by simp [setE, World.setCell], fun k _ hk => ?_⟩
  unfold setE
  rw [heap_set_ne hk, heap_set_ne hk, heap_set_ne hk, heap_set_ne hk]
/-! ### four cells laid into a block -/
def set4 (w : World) (X : Nat) (a b c d : Value) : World := (((w.setCell ⟨X, 0, none⟩ a).setCell ⟨X, 1, none⟩ b).setCell ⟨X, 2, none⟩ c).setCell ⟨X, 3, none⟩ d
theorem set4_self {w : World} {X : Nat} {T : TypeId} {p q r s : Value} (h : w.heap[X]? = some (.cells #[p, q, r, s] T (0, 0))) (a b c d : Value) : (set4 w X a b c d).heap[X]? = some (.cells #[a, b, c, d] T (0, 0)) := by
  unfold set4
  rw [heap_set_self (heap_set_self (heap_set_self (heap_set_self h 0 _) 1 _) 2 _) 3 _]; rfl
theorem chg_set4 (w : World) (X : Nat) (a b c d : Value) : Chg w (set4 w X a b c d) (fun k => k = X) := by
  refine ⟨rfl, rfl, rfl, by simp [set4, World.setCell], fun k _ hk => ?_⟩
  unfold set4
  rw [heap_set_ne hk, heap_set_ne hk, heap_set_ne hk, heap_set_ne hk]
theorem cells4 {V : World} {b : Nat} {T : TypeId} {p q r s : Value} (h : V.heap[b]? = some (.cells #[p, q, r, s] T (0, 0))) : V.cell? ⟨b, 0, none⟩ = some p ∧ V.cell? ⟨b, 1, none⟩ = some q ∧ V.cell? ⟨b, 2, none⟩ = some r ∧ V.cell? ⟨b, 3, none⟩ = some s ∧ ∀ i, V.frozen? ⟨b, i, none⟩ = false :=
  ⟨by simp [World.cell?, h], by simp [World.cell?, h], by simp [World.cell?, h], by simp [World.cell?, h], fun i => by simp [World.frozen?, h]⟩
theorem own_size_ {w : World} {base : Nat} {e : TypeId} {size n m : Nat} {v : Value} {xs ys : List Value} (hm : m = n) (hy : ys = xs) (h : w.ownsRow base e size v n xs) : w.ownsRow base e size v m ys := by subst hm; subst hy; exact h
theorem own_slice {w : World} {base : Nat} {e : TypeId} {size n : Nat} {v : Value} {xs : List Value} (h : w.ownsRow base e size v n xs) : ∃ A c, v = .slice A n c := by
  rcases h.2 with ⟨rfl, h0⟩ | ⟨g, cap, cur, rfl, _⟩
  · exact ⟨none, 0, by rw [h0]⟩
  · exact ⟨_, _, rfl⟩
/-- a row's cells at a block's beginning -/
theorem row_blk {w : World} {X : Nat} {cs : List Value} {T : TypeId} (h : w.heap[X]? = some (.cells cs.toArray T (0, 0))) : RowI w (some ⟨X, 0, none⟩) cs := by
  refine .inr ⟨_, rfl, fun j u hj => ?_⟩
  rw [add_plain]
  simp only [World.cell?, h]
  simpa using hj
/-- an end that lies in a variable -/
def EndAt (V : World) (X : Nat) (pe : PEnd) : Prop := ∃ A c, V.heap[X]? = some (.cells #[.int .i64 pe.kind, .int .i64 pe.n, .slice A pe.out.length c, .int .i64 pe.steps] 35 (0, 0)) ∧ IntsIn V.heap.size V A pe.out
theorem endAt_cells {V : World} {X : Nat} {pe : PEnd} (h : EndAt V X pe) : ∃ A c, V.cell? ⟨X, 0, none⟩ = some (.int .i64 pe.kind) ∧ V.cell? ⟨X, 1, none⟩ = some (.int .i64 pe.n) ∧ V.cell? ⟨X, 2, none⟩ = some (.slice A pe.out.length c) ∧ V.cell? ⟨X, 3, none⟩ = some (.int .i64 pe.steps) ∧ IntsIn V.heap.size V A pe.out := by
  obtain ⟨A, c, h9, hi⟩ := h
  exact ⟨A, c, by simp [World.cell?, h9], by simp [World.cell?, h9], by simp [World.cell?, h9], by simp [World.cell?, h9], hi⟩
theorem putSel_skipY {b : Nat → Bool} {i : Nat} : ∀ {l : List (Nat × Tmp × Value)} {a : Act}, (l.all fun e => !(e.1 == i)) = true → putSel a (up b i) l = putSel a b l
  | [], a, _ => rfl
  | e :: l, a, h => by
    rw [List.all_cons, Bool.and_eq_true] at h
    have he : e.1 ≠ i := by simpa using h.1
    unfold putSel
    rw [up_ne he]
    exact putSel_skipY h.2
/-- what is not listed may be told anew -/
theorem putSel_alt {b : Nat → Bool} {i : Nat} {t : Tmp} {v0 v : Value} : ∀ {L L' : List (Nat × Tmp × Value)} {a : Act} (k : Nat), L[k]? = some (i, t, v0) → L.set k (i, t, v) = L' → b i = false → putSel a b L = putSel a b L'
  | [], _, _, k, h, _, _ => by simp at h
  | x :: r, L', a, 0, h, h2, hb => by
    simp only [List.getElem?_cons_zero, Option.some.injEq] at h
    subst h
    subst h2
    simp only [List.set_cons_zero, putSel, hb, Bool.false_eq_true, if_false]
  | x :: r, L', a, k + 1, h, h2, hb => by
    subst h2
    simp only [List.set_cons_succ, putSel]
    exact putSel_alt k (by simpa using h) rfl hb
end Go.Proofs.Ytnobggabjpcbfaa

/-
  The law's small functions: lists of ints compared; fuel that runs short.
-/
set_option linter.unusedVariables false
set_option linter.unusedSimpArgs false
namespace Go.Proofs.Ytnobggabjpcbfaa
open Go.RowKit

def BoolPost (b : Bool) (w : World) (e : Ending) (w' : World) : Prop := e = .returned (.bool b) ∧ ∃ n, w' = w.drewN n
theorem drewN_add (w : World) (a b : Nat) : (w.drewN a).drewN b = w.drewN (a + b) := by
  simp [World.drewN, Nat.add_assoc]
def beginsB (a b : List Int) : Bool := decide (b <+: a)
theorem beginsB_short {a b : List Int} (h : a.length < b.length) : beginsB a b = false := by
  simp only [beginsB, decide_eq_false_iff_not]
  intro hp
  have := hp.length_le
  omega
theorem beginsB_no {a b : List Int} {j : Nat} (hj : j < b.length) (hja : j < a.length) (h : nth a j ≠ nth b j) : beginsB a b = false := by
  simp only [beginsB, decide_eq_false_iff_not]
  rintro ⟨r, rfl⟩
  apply h
  rw [nth_eq _ hja, nth_eq _ hj, List.getElem_append_left hj]
theorem beginsB_yes {a b : List Int} (hl : b.length ≤ a.length) (h : ∀ j, j < b.length → nth a j = nth b j) : beginsB a b = true := by
  simp only [beginsB, decide_eq_true_eq]
  have : b = a.take b.length := by
    apply List.ext_getElem
    · simp; omega
    · intro i h1 h2
      have := h i h1
      rw [nth_eq _ (by omega), nth_eq _ h1] at this
      simp [this]
  rw [this]
  exact List.take_prefix _ _

set_option maxRecDepth 100000 in
set_option maxHeartbeats 2000000 in
theorem begins_any {a b : List Int} {A A' : Option Addr} {c c' : Nat} (w : World) (ha : IntsIn w.heap.size w A a) (hb : IntsIn w.heap.size w A' b) :
    Calls Try.prog 12 #[.slice A a.length c, .slice A' b.length c'] w (BoolPost (beginsB a b) w) := by
  by_cases hs : a.length < b.length
  · have HB := Lib.hid (beginsB_short hs)
    go_enter Try.func12, Try.ntmps12
    have hs' : (a.length : Int) < (b.length : Int) := by omega
    go_wp2_with fail
    go_ret
    exact ⟨ret_bool HB.out.symm, 0, rfl⟩
  · have hs' : ¬ (a.length : Int) < (b.length : Int) := by omega
    have h1 := ha.1
    have h2 := hb.1
    have HA := Lib.hid ha
    have HBI := Lib.hid hb
    clear ha hb
    go_enter Try.func12, Try.ntmps12
    go_wp2_with fail
    go_loopw [5] (fun i wr => ∃ (j n : Nat), j ≤ b.length ∧ i = .int .i64 (j : Int) ∧ wr = w.drewN n ∧ Hid (∀ q, q < j → nth a q = nth b q)) (fun i _ => b.length + 1 - (intOf i).toNat)
    case atStart => exact ⟨0, 0, by omega, rfl, rfl, Lib.hid (by intro q h; omega)⟩
    case round =>
      obtain ⟨j, n, hj, rfl, rfl, hq⟩ := hrel
      by_cases hlt : j < b.length
      · obtain ⟨ab, ao, rfl, hab, hac⟩ := HA.out.at_ (by omega)
        obtain ⟨bb, bo, rfl, hbb, hbc⟩ := HBI.out.at_ (by omega)
        have ca : w.cell? ⟨ab, ao + j, none⟩ = some (.int .i64 (nth a j)) := hac j (by omega)
        have cb : w.cell? ⟨bb, bo + j, none⟩ = some (.int .i64 (nth b j)) := hbc j (by omega)
        have hj0 : (0 : Int) ≤ (j : Int) := by omega
        have hja : (j : Int) < (a.length : Int) := by omega
        have hjb : (j : Int) < (b.length : Int) := by omega
        clear hac hbc
        by_cases hx : nth a j = nth b j
        · have hx' : (nth a j == nth b j) = true := by simpa using hx
          have hq' : Hid (∀ q, q < j + 1 → nth a q = nth b q) := Lib.hid (fun q hlt' => by
            by_cases h : q = j
            · subst h; exact hx
            · exact hq.out q (by omega))
          clear hx
          generalize nth a j = x at *
          generalize nth b j = y at *
          obtain rfl : x = y := by simpa using hx'
          go_wp2_with fail
          go_quiet (fail)
          go_wp2_with fail
          go_roundw
          case rel => exact ⟨j + 1, _, by omega, by go_num, rfl, hq'⟩
          case measure => simp [intOf]; omega
        · have hx' : (nth a j == nth b j) = false := by simpa using hx
          have HB := Lib.hid (beginsB_no hlt (by omega) hx)
          have HXN := Lib.hid hx
          clear hx
          generalize nth a j = x at *
          generalize nth b j = y at *
          go_wp2_with fail
          go_quiet (fail)
          go_wp2_with fail
          go_ret
          exact ⟨ret_bool HB.out.symm, _, drewN_add _ _ _⟩
      · have hjl : ¬ (j : Int) < (b.length : Int) := by omega
        have HB := Lib.hid (beginsB_yes (a := a) (b := b) (by omega) (fun q h => hq.out q (by omega)))
        go_wp2_with fail
        go_ret
        exact ⟨ret_bool HB.out.symm, n, rfl⟩

theorem begins_eq {a b : List Int} (h : a.length = b.length) : beginsB a b = decide (a = b) := by
  simp only [beginsB, decide_eq_decide]
  constructor
  · intro hp; exact (hp.eq_of_length h.symm).symm
  · rintro rfl; exact List.prefix_refl _

set_option maxRecDepth 100000 in
set_option maxHeartbeats 2000000 in
theorem sameInts_any {a b : List Int} {A A' : Option Addr} {c c' : Nat} (w : World) (ha : IntsIn w.heap.size w A a) (hb : IntsIn w.heap.size w A' b) :
    Calls Try.prog 20 #[.slice A a.length c, .slice A' b.length c'] w (BoolPost (decide (a = b)) w) := by
  by_cases hs : a.length = b.length
  · have HB := Lib.hid (begins_eq hs)
    have hs' : ((a.length : Int) == (b.length : Int)) = true := by simp [hs]
    have HC := Lib.hid (begins_any (c := c) (c' := c') w ha hb)
    clear ha hb
    generalize a.length = la at *
    generalize b.length = lb at *
    subst hs
    go_enter Try.func20, Try.ntmps20
    go_wp2_with (go_at_call 12; refine HC.out.mono ?_; rintro e w' ⟨rfl, n, rfl⟩)
    go_ret
    exact ⟨ret_bool HB.out, n, rfl⟩
  · have HB := Lib.hid (show decide (a = b) = false from by simp; intro h; exact hs (by rw [h]))
    have hs' : ((a.length : Int) == (b.length : Int)) = false := by simp; omega
    clear ha hb
    generalize a.length = la at *
    generalize b.length = lb at *
    go_enter Try.func20, Try.ntmps20
    go_wp2_with fail
    go_ret
    exact ⟨ret_bool HB.out.symm, 0, rfl⟩

/-- an end as a value -/
def EndV (w : World) (pe : PEnd) (v : Value) : Prop := ∃ A c, v = .agg #[.int .i64 pe.kind, .int .i64 pe.n, .slice A pe.out.length c, .int .i64 pe.steps] ∧ IntsIn w.heap.size w A pe.out
def sameE (p q : PEnd) : Bool := decide (p.kind = q.kind ∧ p.n = q.n ∧ p.out = q.out)
def BoolBelow (b : Bool) (w : World) (e : Ending) (w' : World) : Prop := e = .returned (.bool b) ∧ Below w.heap.size w w'

set_option maxRecDepth 100000 in
set_option maxHeartbeats 2000000 in
theorem same_any {p q : PEnd} {v u : Value} (w : World) (hp : EndV w p v) (hq : EndV w q u) : Calls Try.prog 11 #[v, u] w (BoolBelow (sameE p q) w) := by
  obtain ⟨A, c, rfl, hi⟩ := hp
  obtain ⟨A', c', rfl, hi'⟩ := hq
  have hb : Below w.heap.size w ((w.alloc (.cells #[.int .i64 p.kind, .int .i64 p.n, .slice A p.out.length c, .int .i64 p.steps] 35)).alloc (.cells #[.int .i64 q.kind, .int .i64 q.n, .slice A' q.out.length c', .int .i64 q.steps] 35)) :=
    ((Below.refl _ _).alloc (Nat.le_refl _) _).alloc (by rw [World.size_alloc]; exact Nat.le_succ _) _
  have HC := Lib.hid (sameInts_any (c := c) (c' := c') _ ((hi.below hb).mono hb.size) ((hi'.below hb).mono hb.size))
  have HB := Lib.hid hb
  clear hi hi' hb
  by_cases h1 : p.kind = q.kind
  · have h1' : (p.kind == q.kind) = true := by simpa using h1
    by_cases h2 : p.n = q.n
    · have h2' : (p.n == q.n) = true := by simpa using h2
      have HS := Lib.hid (show sameE p q = decide (p.out = q.out) from by simp [sameE, h1, h2])
      clear h1 h2
      generalize p.kind = pk at *
      generalize q.kind = qk at *
      generalize p.n = pn at *
      generalize q.n = qn at *
      go_enter Try.func11, Try.ntmps11
      go_wp2_with (go_at_call 20; refine HC.out.mono ?_; rintro e w' ⟨rfl, n, rfl⟩)
      go_ret
      exact ⟨ret_bool HS.out.symm, below_drewN HB.out n⟩
    · have h2' : (p.n == q.n) = false := by simpa using h2
      have HS := Lib.hid (show sameE p q = false from by simp [sameE, h2])
      clear h1 h2
      go_enter Try.func11, Try.ntmps11
      go_wp2_with fail
      go_ret
      exact ⟨ret_bool HS.out.symm, HB.out⟩
  · have h1' : (p.kind == q.kind) = false := by simpa using h1
    have HS := Lib.hid (show sameE p q = false from by simp [sameE, h1])
    clear h1
    go_enter Try.func11, Try.ntmps11
    go_wp2_with fail
    go_ret
    exact ⟨ret_bool HS.out.symm, HB.out⟩

theorem short_any (f : Int) (w : World) : Calls Try.prog 10 #[.int .i64 f] w fun e w' => e = .returned (.int .i64 (min f 1500)) ∧ w = w' := by
  go_enter Try.func10, Try.ntmps10
  go_wp2_with fail
  all_goals
    go_ret
    exact ⟨ret_int (by omega), rfl⟩
end Go.Proofs.Ytnobggabjpcbfaa

/-
  knows: atoms and binds that are made; the example as a plain program.
-/
set_option linter.unusedVariables false
set_option linter.unusedSimpArgs false
namespace Go.Proofs.Ytnobggabjpcbfaa
open Go.RowKit Go.Maps

/-- the chapter's example -/
def kbody : Anf := .bind 2 4 1 [⟨true, 0⟩] [] [] (.bind 3 2 1 [⟨true, 1⟩, ⟨true, 2⟩] [] [] (.ret ⟨true, 3⟩))
def kmain : Anf := .bind 0 9 0 [⟨false, 7⟩] [] [] (.bind 1 6 0 [⟨true, 0⟩, ⟨false, 5⟩] [] [] (.bind 2 2 13 [⟨true, 1⟩] [] [] (.ret ⟨false, 0⟩)))
def kprog : FlatP := ⟨[⟨0, 1, kbody⟩], kmain⟩
theorem know1 : runE kprog [] 99 = ⟨1, 0, [12], 6⟩ := by kernel_rfl
theorem ksmall : SmallF kprog := by
  refine ⟨by decide, ?_, ?_⟩
  · intro g hg
    obtain rfl : g = ⟨0, 1, kbody⟩ := by simpa [kprog] using hg
    simp only [kbody, rngA, rngL, List.mem_cons, List.not_mem_nil, or_false, forall_eq, forall_eq_or_imp, true_and]
    exact ⟨rfl, ⟨rfl, rfl⟩, rfl⟩
  · simp only [kprog, kmain, rngA, rngL, List.mem_cons, List.not_mem_nil, or_false, forall_eq, forall_eq_or_imp, true_and]
    exact ⟨rfl, ⟨rfl, rfl⟩, rfl, rfl⟩

set_option maxRecDepth 100000 in
set_option maxHeartbeats 1000000 in
theorem mkvar_any (n : Int) (w : World) : Calls Try.prog 16 #[.int .i64 n] w fun e w' => e = .returned (.agg #[.bool true, .int .i64 n]) ∧ Below w.heap.size w w' := by
  go_enter Try.func16, Try.ntmps16
  go_wp2_with fail
  have hb : Below w.heap.size w (w.alloc (.cells #[.bool true, .int .i64 n] 25)) := (Below.refl _ _).alloc (Nat.le_refl _) _
  exact bodyPost_ret (v := .agg #[.bool true, .int .i64 n]) (by simp [results, Try.results16, go_sem]) rfl ⟨rfl, hb⟩
set_option maxRecDepth 100000 in
set_option maxHeartbeats 1000000 in
theorem mkint_any (n : Int) (w : World) : Calls Try.prog 17 #[.int .i64 n] w fun e w' => e = .returned (.agg #[.bool false, .int .i64 n]) ∧ Below w.heap.size w w' := by
  go_enter Try.func17, Try.ntmps17
  go_wp2_with fail
  have hb : Below w.heap.size w (w.alloc (.cells #[.bool false, .int .i64 n] 25)) := (Below.refl _ _).alloc (Nat.le_refl _) _
  exact bodyPost_ret (v := .agg #[.bool false, .int .i64 n]) (by simp [results, Try.results17, go_sem]) rfl ⟨rfl, hb⟩
set_option maxRecDepth 100000 in
set_option maxHeartbeats 1000000 in
theorem mkbind_any (v p : Int) (A : Option Addr) (n c : Nat) (w : World) : Calls Try.prog 19 #[.int .i64 v, .int .i64 p, .slice A n c] w fun e w' => e = .returned (.agg #[.int .i64 v, .int .i64 2, .int .i64 p, .slice A n c, .slice none 0 0, .slice none 0 0]) ∧ Below w.heap.size w w' := by
  go_enter Try.func19, Try.ntmps19
  go_wp2_with fail
  have hb : Below w.heap.size w (w.alloc (.cells #[.int .i64 v, .int .i64 2, .int .i64 p, .slice A n c, .slice none 0 0, .slice none 0 0] 54)) := (Below.refl _ _).alloc (Nat.le_refl _) _
  exact bodyPost_ret (v := .agg #[.int .i64 v, .int .i64 2, .int .i64 p, .slice A n c, .slice none 0 0, .slice none 0 0]) (by simp [results, Try.results19, go_sem]) rfl ⟨rfl, hb⟩
theorem heap4 (w : World) (a b c d : Obj) : ((((w.alloc a).alloc b).alloc c).alloc d).heap[w.heap.size + 1 + 1 + 1]? = some d := by
  have := World.alloc_heap_new (((w.alloc a).alloc b).alloc c) d
  rw [World.size_alloc, World.size_alloc, World.size_alloc] at this
  exact this
set_option maxRecDepth 100000 in
set_option maxHeartbeats 1000000 in
theorem mkapp_any (v : Int) (x y : Bool) (m n : Int) (w : World) : Calls Try.prog 15 #[.int .i64 v, .agg #[.bool x, .int .i64 m], .agg #[.bool y, .int .i64 n]] w fun e w' =>
    ∃ g, e = .returned (.agg #[.int .i64 v, .int .i64 6, .int .i64 0, .slice (some ⟨g, 0, none⟩) 2 2, .slice none 0 0, .slice none 0 0]) ∧ w.heap.size ≤ g ∧ w'.heap[g]? = some (.cells #[.bool x, .int .i64 m, .bool y, .int .i64 n] 25) ∧ Below w.heap.size w w' := by
  go_enter Try.func15, Try.ntmps15
  go_wp2_with fail
  have hb : Below w.heap.size w ((((w.alloc (.cells #[.bool x, .int .i64 m] 25)).alloc (.cells #[.bool y, .int .i64 n] 25)).alloc (.cells #[.int .i64 v, .int .i64 6, .int .i64 0, .slice (some ⟨w.heap.size + 1 + 1 + 1, 0, none⟩) 2 2, .slice none 0 0, .slice none 0 0] 54)).alloc (.cells #[.bool x, .int .i64 m, .bool y, .int .i64 n] 25)) :=
    ((((Below.refl _ _).alloc (Nat.le_refl _) _).alloc (by simp) _).alloc (by simp; omega) _).alloc (by simp; omega) _
  exact bodyPost_ret (v := .agg #[.int .i64 v, .int .i64 6, .int .i64 0, .slice (some ⟨w.heap.size + 1 + 1 + 1, 0, none⟩) 2 2, .slice none 0 0, .slice none 0 0]) (by simp [results, Try.results15, go_sem]) rfl ⟨_, rfl, by omega, heap4 _ _ _ _ _, hb⟩
end Go.Proofs.Ytnobggabjpcbfaa

/-
  knows: its two regions that draw their order.
-/
set_option linter.unusedVariables false
set_option linter.unusedSimpArgs false
namespace Go.Proofs.Ytnobggabjpcbfaa
open Go.RowKit Go.Maps

noncomputable def knowsR2 : Code := match Try.f8.body with
  | some (.seq _ (.seq _ (.seq c _))) => c
  | _ => .skip
noncomputable def knowsT3 : Code := match Try.f8.body with
  | some (.seq _ (.seq _ (.seq _ c))) => c
  | _ => .skip
noncomputable def knowsR4 : Code := match Try.f8.body with
  | some (.seq _ (.seq _ (.seq _ (.seq _ (.seq c _))))) => c
  | _ => .skip
noncomputable def knowsT5 : Code := match Try.f8.body with
  | some (.seq _ (.seq _ (.seq _ (.seq _ (.seq _ c))))) => c
  | _ => .skip
open Go.Proofs.YtnobggabjpcbfaaW.PrintWords Go.Proofs.YtnobggabjpcbfaaW.PrintLast
theorem putSel_skip {b : Nat → Bool} {i : Nat} : ∀ {l : List (Nat × Tmp × Value)} {a : Act}, (l.all fun e => !(e.1 == i)) = true → putSel a (up b i) l = putSel a b l
  | [], a, _ => rfl
  | e :: l, a, h => by
    rw [List.all_cons, Bool.and_eq_true] at h
    have he : e.1 ≠ i := by simpa using h.1
    unfold putSel
    rw [up_ne he]
    exact putSel_skip h.2
inductive Dep (b : Nat → Bool) : List (Nat × Tmp × Value) → List (Nat × Tmp × Value) → Prop
  | nil : Dep b [] []
  | same {x : Nat × Tmp × Value} {l l' : List (Nat × Tmp × Value)} (h : Dep b l l') : Dep b (x :: l) (x :: l')
  | turn {i : Nat} {t : Tmp} {v v' : Value} {l l' : List (Nat × Tmp × Value)} (hi : b i = false) (h : Dep b l l') : Dep b ((i, t, v) :: l) ((i, t, v') :: l')
theorem putSel_dep {b : Nat → Bool} : ∀ {L L' : List (Nat × Tmp × Value)} {a : Act}, Dep b L L' → putSel a b L = putSel a b L'
  | _, _, a, .nil => rfl
  | _, _, a, .same h => by
    unfold putSel
    split
    · exact putSel_dep h
    · exact putSel_dep h
  | _, _, a, .turn hi h => by
    unfold putSel
    simp only [hi, Bool.false_eq_true, if_false]
    exact putSel_dep h
/-- blocks that were made since V, each from its operation on -/
structure KF (V : World) (b : Nat → Bool) (L : List (Nat × Nat × Obj)) (w : World) : Prop where
  bel : Below V.heap.size V w
  at_ : ∀ x ∈ L, b x.1 = true → V.heap.size ≤ x.2.1 ∧ w.heap[x.2.1]? = some x.2.2
theorem heap_lt {w : World} {g : Nat} {o : Obj} (h : w.heap[g]? = some o) : g < w.heap.size := (Array.getElem?_eq_some_iff.1 h).1
section
variable {V w w' : World} {b : Nat → Bool} {L L' : List (Nat × Nat × Obj)} {i : Nat}
theorem KF.pass (h : KF V b L w) (hi : (L.all fun x => !(x.1 == i)) = true) : KF V (up b i) L w :=
  ⟨h.bel, fun x hx hb => by
    have : x.1 ≠ i := by simpa using List.all_eq_true.1 hi x hx
    exact h.at_ x hx (by rwa [up_ne this] at hb)⟩
theorem KF.grow (h : KF V b L w) (hw : Below w.heap.size w w') (hi : (L.map (·.1)).contains i = false) : KF V (up b i) L w' :=
  ⟨h.bel.trans (hw.mono h.bel.size), fun x hx hb => by
    have hne : x.1 ≠ i := fun e => by
      have : (L.map (·.1)).contains i = true := List.contains_iff_mem.2 (List.mem_map.2 ⟨x, hx, e⟩)
      rw [this] at hi; cases hi
    obtain ⟨h1, h2⟩ := h.at_ x hx (by rwa [up_ne hne] at hb)
    exact ⟨h1, (hw.block _ (heap_lt h2)).trans h2⟩⟩
theorem KF.made (h : KF V b L w) (i : Nat) {g : Nat} {o : Obj} (hw : Below w.heap.size w w') (hg : w.heap.size ≤ g) (ho : w'.heap[g]? = some o) (hL : ∀ x ∈ L', x = (i, g, o) ∨ (x.1 ≠ i ∧ (x ∈ L ∨ b x.1 = false))) : KF V (up b i) L' w' :=
  ⟨h.bel.trans (hw.mono h.bel.size), fun x hx hb => by
    rcases hL x hx with rfl | ⟨hne, hm | hf⟩
    · exact ⟨Nat.le_trans h.bel.size hg, ho⟩
    · obtain ⟨h1, h2⟩ := h.at_ x hm (by rwa [up_ne hne] at hb)
      exact ⟨h1, (hw.block _ (heap_lt h2)).trans h2⟩
    · rw [up_ne hne, hf] at hb; cases hb⟩
theorem KF.new (h : KF V b L w) (i : Nat) (o : Obj) (hL : ∀ x ∈ L', x = (i, w.heap.size, o) ∨ (x.1 ≠ i ∧ (x ∈ L ∨ b x.1 = false))) : KF V (up b i) L' (w.alloc o) :=
  h.made i ((Below.refl _ _).alloc (Nat.le_refl _) _) (Nat.le_refl _) (World.alloc_heap_new w o) hL
/-- a block's three cells stored -/
def set3 (w : World) (g : Nat) (c0 c1 c2 : Value) : World := ((w.setCell ⟨g, 0, none⟩ c0).setCell ⟨g, 1, none⟩ c1).setCell ⟨g, 2, none⟩ c2
theorem zero3 (h : KF V b L w) {i g : Nat} {c0 c1 c2 : Value} {t : TypeId} (hm : (i, g, Obj.cells #[c0, c1, c2] t (0, 0)) ∈ L) (hb : b i = true) : w.cell? ⟨g, 0, none⟩ = some c0 ∧ w.cell? ⟨g, 1, none⟩ = some c1 ∧ w.cell? ⟨g, 2, none⟩ = some c2 ∧ ∀ i, w.frozen? ⟨g, i, none⟩ = false := by
  obtain ⟨_, h2⟩ := h.at_ _ hm hb
  exact ⟨by simp [World.cell?, h2], by simp [World.cell?, h2], by simp [World.cell?, h2], fun i => by simp [World.frozen?, h2]⟩
theorem KF.set3 (h : KF V b L w) (d0 d1 d2 : Value) {i g j : Nat} {c0 c1 c2 : Value} {t : TypeId} (hm : (i, g, Obj.cells #[c0, c1, c2] t (0, 0)) ∈ L) (hb : b i = true) (hL : ∀ x ∈ L', (x.1 = i ∧ x.2.1 = g ∧ x.2.2 = Obj.cells #[d0, d1, d2] t (0, 0)) ∨ (x.1 ≠ j ∧ x ∈ L ∧ x.2.2 ≠ Obj.cells #[c0, c1, c2] t (0, 0) ∧ b x.1 = true)) : KF V (up b j) L' (set3 w g d0 d1 d2) := by
  obtain ⟨h1, h2⟩ := h.at_ _ hm hb
  refine ⟨((h.bel.setCell (p := ⟨g, 0, none⟩) h1 d0).setCell (p := ⟨g, 1, none⟩) h1 d1).setCell (p := ⟨g, 2, none⟩) h1 d2, fun x hx hbx => ?_⟩
  rcases hL x hx with ⟨_, e2, e3⟩ | ⟨hne, hm', hno, hbt⟩
  · rw [e2, e3]
    refine ⟨h1, ?_⟩
    unfold Go.Proofs.Ytnobggabjpcbfaa.set3
    rw [heap_set_self (heap_set_self (heap_set_self h2 0 _) 1 _) 2 _]; rfl
  · obtain ⟨g1, g2⟩ := h.at_ x hm' hbt
    have hng : x.2.1 ≠ g := fun e => by
      rw [e, h2] at g2
      exact hno (Option.some.inj g2).symm
    refine ⟨g1, ?_⟩
    unfold Go.Proofs.Ytnobggabjpcbfaa.set3
    rw [heap_set_ne hng, heap_set_ne hng, heap_set_ne hng]
    exact g2
/-- ahead of the last operation L, behind it L' -/
def KI (V : World) (b : Nat → Bool) (L L' : List (Nat × Nat × Obj)) (l : Nat) (w : World) : Prop := (b l = false → KF V b L w) ∧ (b l = true → KF V b L' w)
theorem KI.start {l : Nat} (hb : Below V.heap.size V w) : KI V (fun _ => false) L L' l w := ⟨fun _ => ⟨hb, fun x _ h => by cases h⟩, fun h => by cases h⟩
theorem KI.step {l : Nat} (hl : b l = false) (hi : i ≠ l) (h : KF V (up b i) L w) : KI V (up b i) L L' l w := ⟨fun _ => h, fun h' => (by rw [up_ne (Ne.symm hi), hl] at h'; cases h')⟩
theorem KI.last {l : Nat} (h : KF V (up b l) L' w) : KI V (up b l) L L' l w := ⟨fun h' => (by rw [up_self] at h'; cases h'), fun _ => h⟩
end

set_option maxRecDepth 100000 in
set_option maxHeartbeats 16000000 in
theorem kn_region2 {W V : World} {X1 bf : Nat} (hS : ∀ V2, Below V.heap.size V V2 → V2.cell? ⟨X1, 0, none⟩ = some (.int .i64 2) ∧ V2.cell? ⟨X1, 1, none⟩ = some (.int .i64 4) ∧ V2.cell? ⟨X1, 2, none⟩ = some (.int .i64 1) ∧ V2.cell? ⟨X1, 3, none⟩ = some (.slice (some ⟨bf, 0, none⟩) 1 1) ∧ V2.cell? ⟨X1, 4, none⟩ = some (.slice none 0 0) ∧ V2.cell? ⟨X1, 5, none⟩ = some (.slice none 0 0))
    (hend : ∀ (V2 : World) (g3 g5 g8 : Nat), Below V.heap.size V V2 → V2.heap[g3]? = some (.cells #[.bool true, .int .i64 1, .bool true, .int .i64 2] 25) → V2.heap[g5]? = some (.cells #[.int .i64 2, .int .i64 4, .int .i64 1, .slice (some ⟨bf, 0, none⟩) 1 1, .slice none 0 0, .slice none 0 0, .int .i64 3, .int .i64 2, .int .i64 1, .slice (some ⟨g3, 0, none⟩) 2 2, .slice none 0 0, .slice none 0 0] 54) → V2.heap[g8]? = some (.cells #[.slice (some ⟨g5, 0, none⟩) 2 2, .bool true, .int .i64 3] 27) → ∀ (y0 y1 y3 y4 y5 y6 y7 y8 y9 y10 y11 y12 y13 y14 y15 y16 y17 y18 y19 y20 y21 y22 y23 y24 y25 y26 y27 y28 y29 y30 y31 y32 y33 y34 y35 y36 y37 y38 y39 y40 y41 y42 y43 y44 y45 y46 y47 y48 y49 y50 : Value), knowsT3.wp Try.prog (bodyPost Try.prog Try.f8 (BoolBelow true W)) { tmps := #[y0, y1, .pointer (some ⟨g8, 0, none⟩), y3, y4, y5, y6, y7, y8, y9, y10, y11, y12, y13, y14, y15, y16, y17, y18, y19, y20, y21, y22, y23, y24, y25, y26, y27, y28, y29, y30, y31, y32, y33, y34, y35, y36, y37, y38, y39, y40, y41, y42, y43, y44, y45, y46, y47, y48, y49, y50], defers := [] } V2) (u0 u2 u3 u4 u5 u6 u7 u8 u9 u10 u11 u12 u13 u14 u15 u16 u17 u18 u19 u20 u21 u22 u23 u24 u25 u26 u27 u28 u29 u30 u31 u32 u33 u34 u35 u36 u37 u38 u39 u40 u41 u42 u43 u44 u45 u46 u47 u48 u49 u50 : Value) :
    ∀ K : Act → World → Prop, (∀ a w, knowsT3.wp Try.prog (bodyPost Try.prog Try.f8 (BoolBelow true W)) a w → K a w) → knowsR2.wp Try.prog (Exit.then K (bodyPost Try.prog Try.f8 (BoolBelow true W))) { tmps := #[u0, .pointer (some ⟨X1, 0, none⟩), u2, u3, u4, u5, u6, u7, u8, u9, u10, u11, u12, u13, u14, u15, u16, u17, u18, u19, u20, u21, u22, u23, u24, u25, u26, u27, u28, u29, u30, u31, u32, u33, u34, u35, u36, u37, u38, u39, u40, u41, u42, u43, u44, u45, u46, u47, u48, u49, u50], defers := [] } V := by
  intro K hK0
  have HK0 := Lib.hid hK0
  have HEND := Lib.hid hend
  have HS := Lib.hid hS
  have D0 := Lib.hid (show Below V.heap.size V V.drew from (Below.refl _ _).drew)
  clear hK0 hend hS
  unfold knowsR2 Try.f8
  dsimp only
  refine start_ (n := 10) (S := fun w' => True) (ds := []) #[false, false, false, false, false, false, false, false, false, false] (by kernel_rfl) rfl rfl trivial (fun hHeld => ?_)
  clear hHeld
  refine inv_at (B := [0, 0, 2, 6, 14, 31, 30, 127, 0, 511]) [0, 1, 2, 3, 4, 5, 6, 7, 8, 9] (fun a0_ b a w' => ∃ g3 g5 g8, a = putSel a0_ b [(0, 10, .agg #[.int .i64 2, .int .i64 4, .int .i64 1, .slice (some ⟨bf, 0, none⟩) 1 1, .slice none 0 0, .slice none 0 0]), (1, 11, .agg #[.bool true, .int .i64 1]), (2, 12, .agg #[.bool true, .int .i64 2]), (3, 13, .slice (some ⟨g3, 0, none⟩) 2 2), (4, 14, .agg #[.int .i64 3, .int .i64 2, .int .i64 1, .slice (some ⟨g3, 0, none⟩) 2 2, .slice none 0 0, .slice none 0 0]), (5, 15, .slice (some ⟨g5, 0, none⟩) 2 2), (6, 16, .agg #[.bool true, .int .i64 3]), (7, 17, .agg #[.slice (some ⟨g5, 0, none⟩) 2 2, .bool true, .int .i64 3]), (8, 2, .pointer (some ⟨g8, 0, none⟩))] ∧ KI V b [(3, g3, (.cells #[.bool true, .int .i64 1, .bool true, .int .i64 2] 25)), (5, g5, (.cells #[.int .i64 2, .int .i64 4, .int .i64 1, .slice (some ⟨bf, 0, none⟩) 1 1, .slice none 0 0, .slice none 0 0, .int .i64 3, .int .i64 2, .int .i64 1, .slice (some ⟨g3, 0, none⟩) 2 2, .slice none 0 0, .slice none 0 0] 54)), (8, g8, (.cells #[.slice none 0 0, .bool false, .int .i64 0] 27))] [(3, g3, (.cells #[.bool true, .int .i64 1, .bool true, .int .i64 2] 25)), (5, g5, (.cells #[.int .i64 2, .int .i64 4, .int .i64 1, .slice (some ⟨bf, 0, none⟩) 1 1, .slice none 0 0, .slice none 0 0, .int .i64 3, .int .i64 2, .int .i64 1, .slice (some ⟨g3, 0, none⟩) 2 2, .slice none 0 0, .slice none 0 0] 54)), (8, g8, (.cells #[.slice (some ⟨g5, 0, none⟩) 2 2, .bool true, .int .i64 3] 27))] 9 w') rfl (by kernel_rfl) (by kernel_rfl) (by kernel_rfl) ?_ ?_ ?_
  · exact ⟨0, 0, 0, by simp only [putSel, Bool.false_eq_true, if_false], KI.start D0.out⟩
  · skip
    refine steps_cons ?_ ?_
    · rintro b a w' ⟨g3, g5, g8, ha, hI⟩ hb_ hon hoff
      refine ⟨_, rfl, fun K hK => ?_⟩
      have e1 : a.tmps[1]? = some (.pointer (some ⟨X1, 0, none⟩)) := by rw [ha]; exact (putSel_off rfl).trans rfl
      obtain ⟨z0, z1, z2, z3, z4, z5⟩ := HS.out w' (hI.1 (hoff 9 (by kernel_rfl))).bel
      have hL : b 9 = false := hoff 9 (by kernel_rfl)
      replace ha := Lib.hid ha
      have HI := Lib.hid hI
      clear hI
      refine value_ (w1 := w') (v := .agg #[.int .i64 2, .int .i64 4, .int .i64 1, .slice (some ⟨bf, 0, none⟩) 1 1, .slice none 0 0, .slice none 0 0]) (by rfl) rfl ?_ ?_
      · go_simp
        try rfl
      exact hK.out _ _ ⟨g3, g5, g8, (by rw [ha.out]; exact putSel_upk 0 hb_ rfl rfl rfl), KI.step hL (by decide) ((HI.out.1 hL).pass (by rfl))⟩
    refine steps_cons ?_ ?_
    · rintro b a w' ⟨g3, g5, g8, ha, hI⟩ hb_ hon hoff
      refine ⟨_, rfl, fun K hK => ?_⟩
      have hL : b 9 = false := hoff 9 (by kernel_rfl)
      replace ha := Lib.hid ha
      have HI := Lib.hid hI
      clear hI
      refine goes_ Try.func16 (by kernel_rfl) rfl #[.int .i64 1] (by rfl) rfl rfl (by first | (simp only [List.map_toArray, List.map_cons, List.map_nil, Act.eval, Array.getD_eq_getD_getElem?, Option.getD_some]; done) | (simp only [List.map_toArray, List.map_cons, List.map_nil, Act.eval, Array.getD_eq_getD_getElem?, Option.getD_some]; rfl)) ?_
      refine (mkvar_any 1 w').mono ?_
      rintro e w2 ⟨rfl, hb2⟩
      exact ⟨_, rfl, hK.out _ _ ⟨g3, g5, g8, (by rw [ha.out]; exact putSel_upk 1 hb_ rfl rfl rfl), KI.step hL (by decide) ((HI.out.1 hL).grow hb2 (by rfl))⟩⟩
    refine steps_cons ?_ ?_
    · rintro b a w' ⟨g3, g5, g8, ha, hI⟩ hb_ hon hoff
      refine ⟨_, rfl, fun K hK => ?_⟩
      have hL : b 9 = false := hoff 9 (by kernel_rfl)
      replace ha := Lib.hid ha
      have HI := Lib.hid hI
      clear hI
      refine goes_ Try.func16 (by kernel_rfl) rfl #[.int .i64 2] (by rfl) rfl rfl (by first | (simp only [List.map_toArray, List.map_cons, List.map_nil, Act.eval, Array.getD_eq_getD_getElem?, Option.getD_some]; done) | (simp only [List.map_toArray, List.map_cons, List.map_nil, Act.eval, Array.getD_eq_getD_getElem?, Option.getD_some]; rfl)) ?_
      refine (mkvar_any 2 w').mono ?_
      rintro e w2 ⟨rfl, hb2⟩
      exact ⟨_, rfl, hK.out _ _ ⟨g3, g5, g8, (by rw [ha.out]; exact putSel_upk 2 hb_ rfl rfl rfl), KI.step hL (by decide) ((HI.out.1 hL).grow hb2 (by rfl))⟩⟩
    refine steps_cons ?_ ?_
    · rintro b a w' ⟨g3, g5, g8, ha, hI⟩ hb_ hon hoff
      refine ⟨_, rfl, fun K hK => ?_⟩
      have e11 : a.tmps[11]? = some (.agg #[.bool true, .int .i64 1]) := by rw [ha]; exact putSel_on (e := (1, 11, .agg #[.bool true, .int .i64 1])) 1 rfl rfl (hon 1 (by kernel_rfl)) rfl
      have e12 : a.tmps[12]? = some (.agg #[.bool true, .int .i64 2]) := by rw [ha]; exact putSel_on (e := (2, 12, .agg #[.bool true, .int .i64 2])) 2 rfl rfl (hon 2 (by kernel_rfl)) rfl
      have o4 : b 4 = false := hoff 4 (by kernel_rfl)
      have o5 : b 5 = false := hoff 5 (by kernel_rfl)
      have hL : b 9 = false := hoff 9 (by kernel_rfl)
      replace ha := Lib.hid ha
      have HI := Lib.hid hI
      clear hI
      refine value_ (w1 := w'.alloc (.cells #[.bool true, .int .i64 1, .bool true, .int .i64 2] 25)) (v := .slice (some ⟨w'.heap.size, 0, none⟩) 2 2) (by rfl) rfl ?_ ?_
      · go_simp
        try rfl
      refine hK.out _ _ ⟨w'.heap.size, g5, g8, (by rw [ha.out, putSel_dep (L' := [(0, 10, .agg #[.int .i64 2, .int .i64 4, .int .i64 1, .slice (some ⟨bf, 0, none⟩) 1 1, .slice none 0 0, .slice none 0 0]), (1, 11, .agg #[.bool true, .int .i64 1]), (2, 12, .agg #[.bool true, .int .i64 2]), (3, 13, .slice (some ⟨g3, 0, none⟩) 2 2), (4, 14, .agg #[.int .i64 3, .int .i64 2, .int .i64 1, .slice (some ⟨w'.heap.size, 0, none⟩) 2 2, .slice none 0 0, .slice none 0 0]), (5, 15, .slice (some ⟨g5, 0, none⟩) 2 2), (6, 16, .agg #[.bool true, .int .i64 3]), (7, 17, .agg #[.slice (some ⟨g5, 0, none⟩) 2 2, .bool true, .int .i64 3]), (8, 2, .pointer (some ⟨g8, 0, none⟩))]) (.same (.same (.same (.same (.turn o4 (.same (.same (.same (.same (.nil))))))))))]; exact putSel_upk 3 hb_ rfl rfl rfl), KI.step hL (by decide) ((HI.out.1 hL).new 3 _ ?_)⟩
      intro x hx
      simp only [List.mem_cons, List.not_mem_nil, or_false] at hx
      rcases hx with rfl | rfl | rfl
      · exact .inl rfl
      · exact .inr ⟨by simp, .inr o5⟩
      · exact .inr ⟨by simp, .inl (by simp)⟩
    refine steps_cons ?_ ?_
    · rintro b a w' ⟨g3, g5, g8, ha, hI⟩ hb_ hon hoff
      refine ⟨_, rfl, fun K hK => ?_⟩
      have e13 : a.tmps[13]? = some (.slice (some ⟨g3, 0, none⟩) 2 2) := by rw [ha]; exact putSel_on (e := (3, 13, .slice (some ⟨g3, 0, none⟩) 2 2)) 3 rfl rfl (hon 3 (by kernel_rfl)) rfl
      have hL : b 9 = false := hoff 9 (by kernel_rfl)
      replace ha := Lib.hid ha
      have HI := Lib.hid hI
      clear hI
      refine goes_ Try.func19 (by kernel_rfl) rfl #[.int .i64 3, .int .i64 1, .slice (some ⟨g3, 0, none⟩) 2 2] (by rfl) rfl rfl (by first | (simp only [List.map_toArray, List.map_cons, List.map_nil, Act.eval, Array.getD_eq_getD_getElem?, Option.getD_some, e13]; done) | (simp only [List.map_toArray, List.map_cons, List.map_nil, Act.eval, Array.getD_eq_getD_getElem?, Option.getD_some, e13]; rfl)) ?_
      refine (mkbind_any 3 1 _ 2 2 w').mono ?_
      rintro e w2 ⟨rfl, hb2⟩
      exact ⟨_, rfl, hK.out _ _ ⟨g3, g5, g8, (by rw [ha.out]; exact putSel_upk 4 hb_ rfl rfl rfl), KI.step hL (by decide) ((HI.out.1 hL).grow hb2 (by rfl))⟩⟩
    refine steps_cons ?_ ?_
    · rintro b a w' ⟨g3, g5, g8, ha, hI⟩ hb_ hon hoff
      refine ⟨_, rfl, fun K hK => ?_⟩
      have e10 : a.tmps[10]? = some (.agg #[.int .i64 2, .int .i64 4, .int .i64 1, .slice (some ⟨bf, 0, none⟩) 1 1, .slice none 0 0, .slice none 0 0]) := by rw [ha]; exact putSel_on (e := (0, 10, .agg #[.int .i64 2, .int .i64 4, .int .i64 1, .slice (some ⟨bf, 0, none⟩) 1 1, .slice none 0 0, .slice none 0 0])) 0 rfl rfl (hon 0 (by kernel_rfl)) rfl
      have e14 : a.tmps[14]? = some (.agg #[.int .i64 3, .int .i64 2, .int .i64 1, .slice (some ⟨g3, 0, none⟩) 2 2, .slice none 0 0, .slice none 0 0]) := by rw [ha]; exact putSel_on (e := (4, 14, .agg #[.int .i64 3, .int .i64 2, .int .i64 1, .slice (some ⟨g3, 0, none⟩) 2 2, .slice none 0 0, .slice none 0 0])) 4 rfl rfl (hon 4 (by kernel_rfl)) rfl
      have o7 : b 7 = false := hoff 7 (by kernel_rfl)
      have hL : b 9 = false := hoff 9 (by kernel_rfl)
      replace ha := Lib.hid ha
      have HI := Lib.hid hI
      clear hI
      refine value_ (w1 := w'.alloc (.cells #[.int .i64 2, .int .i64 4, .int .i64 1, .slice (some ⟨bf, 0, none⟩) 1 1, .slice none 0 0, .slice none 0 0, .int .i64 3, .int .i64 2, .int .i64 1, .slice (some ⟨g3, 0, none⟩) 2 2, .slice none 0 0, .slice none 0 0] 54)) (v := .slice (some ⟨w'.heap.size, 0, none⟩) 2 2) (by rfl) rfl ?_ ?_
      · go_simp
        try rfl
      refine hK.out _ _ ⟨g3, w'.heap.size, g8, (by rw [ha.out, putSel_dep (L' := [(0, 10, .agg #[.int .i64 2, .int .i64 4, .int .i64 1, .slice (some ⟨bf, 0, none⟩) 1 1, .slice none 0 0, .slice none 0 0]), (1, 11, .agg #[.bool true, .int .i64 1]), (2, 12, .agg #[.bool true, .int .i64 2]), (3, 13, .slice (some ⟨g3, 0, none⟩) 2 2), (4, 14, .agg #[.int .i64 3, .int .i64 2, .int .i64 1, .slice (some ⟨g3, 0, none⟩) 2 2, .slice none 0 0, .slice none 0 0]), (5, 15, .slice (some ⟨g5, 0, none⟩) 2 2), (6, 16, .agg #[.bool true, .int .i64 3]), (7, 17, .agg #[.slice (some ⟨w'.heap.size, 0, none⟩) 2 2, .bool true, .int .i64 3]), (8, 2, .pointer (some ⟨g8, 0, none⟩))]) (.same (.same (.same (.same (.same (.same (.same (.turn o7 (.same (.nil))))))))))]; exact putSel_upk 5 hb_ rfl rfl rfl), KI.step hL (by decide) ((HI.out.1 hL).new 5 _ ?_)⟩
      intro x hx
      simp only [List.mem_cons, List.not_mem_nil, or_false] at hx
      rcases hx with rfl | rfl | rfl
      · exact .inr ⟨by simp, .inl (by simp)⟩
      · exact .inl rfl
      · exact .inr ⟨by simp, .inl (by simp)⟩
    refine steps_cons ?_ ?_
    · rintro b a w' ⟨g3, g5, g8, ha, hI⟩ hb_ hon hoff
      refine ⟨_, rfl, fun K hK => ?_⟩
      have hL : b 9 = false := hoff 9 (by kernel_rfl)
      replace ha := Lib.hid ha
      have HI := Lib.hid hI
      clear hI
      refine goes_ Try.func16 (by kernel_rfl) rfl #[.int .i64 3] (by rfl) rfl rfl (by first | (simp only [List.map_toArray, List.map_cons, List.map_nil, Act.eval, Array.getD_eq_getD_getElem?, Option.getD_some]; done) | (simp only [List.map_toArray, List.map_cons, List.map_nil, Act.eval, Array.getD_eq_getD_getElem?, Option.getD_some]; rfl)) ?_
      refine (mkvar_any 3 w').mono ?_
      rintro e w2 ⟨rfl, hb2⟩
      exact ⟨_, rfl, hK.out _ _ ⟨g3, g5, g8, (by rw [ha.out]; exact putSel_upk 6 hb_ rfl rfl rfl), KI.step hL (by decide) ((HI.out.1 hL).grow hb2 (by rfl))⟩⟩
    refine steps_cons ?_ ?_
    · rintro b a w' ⟨g3, g5, g8, ha, hI⟩ hb_ hon hoff
      refine ⟨_, rfl, fun K hK => ?_⟩
      have e15 : a.tmps[15]? = some (.slice (some ⟨g5, 0, none⟩) 2 2) := by rw [ha]; exact putSel_on (e := (5, 15, .slice (some ⟨g5, 0, none⟩) 2 2)) 5 rfl rfl (hon 5 (by kernel_rfl)) rfl
      have e16 : a.tmps[16]? = some (.agg #[.bool true, .int .i64 3]) := by rw [ha]; exact putSel_on (e := (6, 16, .agg #[.bool true, .int .i64 3])) 6 rfl rfl (hon 6 (by kernel_rfl)) rfl
      have hL : b 9 = false := hoff 9 (by kernel_rfl)
      replace ha := Lib.hid ha
      have HI := Lib.hid hI
      clear hI
      refine value_ (w1 := w') (v := .agg #[.slice (some ⟨g5, 0, none⟩) 2 2, .bool true, .int .i64 3]) (by rfl) rfl ?_ ?_
      · go_simp
        try rfl
      exact hK.out _ _ ⟨g3, g5, g8, (by rw [ha.out]; exact putSel_upk 7 hb_ rfl rfl rfl), KI.step hL (by decide) ((HI.out.1 hL).pass (by rfl))⟩
    refine steps_cons ?_ ?_
    · rintro b a w' ⟨g3, g5, g8, ha, hI⟩ hb_ hon hoff
      refine ⟨_, rfl, fun K hK => ?_⟩
      have hL : b 9 = false := hoff 9 (by kernel_rfl)
      replace ha := Lib.hid ha
      have HI := Lib.hid hI
      clear hI
      refine value_ (w1 := w'.alloc (.cells #[.slice none 0 0, .bool false, .int .i64 0] 27)) (v := .pointer (some ⟨w'.heap.size, 0, none⟩)) (by rfl) rfl ?_ ?_
      · go_simp
        try rfl
      refine hK.out _ _ ⟨g3, g5, w'.heap.size, (by rw [ha.out, putSel_dep (L' := [(0, 10, .agg #[.int .i64 2, .int .i64 4, .int .i64 1, .slice (some ⟨bf, 0, none⟩) 1 1, .slice none 0 0, .slice none 0 0]), (1, 11, .agg #[.bool true, .int .i64 1]), (2, 12, .agg #[.bool true, .int .i64 2]), (3, 13, .slice (some ⟨g3, 0, none⟩) 2 2), (4, 14, .agg #[.int .i64 3, .int .i64 2, .int .i64 1, .slice (some ⟨g3, 0, none⟩) 2 2, .slice none 0 0, .slice none 0 0]), (5, 15, .slice (some ⟨g5, 0, none⟩) 2 2), (6, 16, .agg #[.bool true, .int .i64 3]), (7, 17, .agg #[.slice (some ⟨g5, 0, none⟩) 2 2, .bool true, .int .i64 3]), (8, 2, .pointer (some ⟨g8, 0, none⟩))]) (.same (.same (.same (.same (.same (.same (.same (.same (.same (.nil))))))))))]; exact putSel_upk 8 hb_ rfl rfl rfl), KI.step hL (by decide) ((HI.out.1 hL).new 8 _ ?_)⟩
      intro x hx
      simp only [List.mem_cons, List.not_mem_nil, or_false] at hx
      rcases hx with rfl | rfl | rfl
      · exact .inr ⟨by simp, .inl (by simp)⟩
      · exact .inr ⟨by simp, .inl (by simp)⟩
      · exact .inl rfl
    refine steps_cons ?_ ?_
    · rintro b a w' ⟨g3, g5, g8, ha, hI⟩ hb_ hon hoff
      refine ⟨_, rfl, fun K hK => ?_⟩
      have e17 : a.tmps[17]? = some (.agg #[.slice (some ⟨g5, 0, none⟩) 2 2, .bool true, .int .i64 3]) := by rw [ha]; exact putSel_on (e := (7, 17, .agg #[.slice (some ⟨g5, 0, none⟩) 2 2, .bool true, .int .i64 3])) 7 rfl rfl (hon 7 (by kernel_rfl)) rfl
      have e2 : a.tmps[2]? = some (.pointer (some ⟨g8, 0, none⟩)) := by rw [ha]; exact putSel_on (e := (8, 2, .pointer (some ⟨g8, 0, none⟩))) 8 rfl rfl (hon 8 (by kernel_rfl)) rfl
      have q3 := hon 3 (by kernel_rfl)
      have q5 := hon 5 (by kernel_rfl)
      have q8 := hon 8 (by kernel_rfl)
      replace ha := Lib.hid ha
      have HI := Lib.hid hI
      clear hI
      obtain ⟨y0, y1, y2, y3⟩ := zero3 (HI.out.1 hb_) (i := 8) (g := g8) (c0 := .slice none 0 0) (c1 := .bool false) (c2 := .int .i64 0) (t := 27) (by simp) q8
      refine skip_ (w1 := set3 w' g8 (.slice (some ⟨g5, 0, none⟩) 2 2) (.bool true) (.int .i64 3)) (by rfl) rfl ?_ ?_
      · unfold set3
        go_simp
        try rfl
      refine hK.out _ _ ⟨g3, g5, g8, (by rw [ha.out]; exact (putSel_skip rfl).symm), KI.last ((HI.out.1 hb_).set3 _ _ _ (i := 8) (g := g8) (c0 := .slice none 0 0) (c1 := .bool false) (c2 := .int .i64 0) (t := 27) (by simp) q8 ?_)⟩
      intro x hx
      simp only [List.mem_cons, List.not_mem_nil, or_false] at hx
      rcases hx with rfl | rfl | rfl
      · exact .inr ⟨by simp, by simp, by simp, q3⟩
      · exact .inr ⟨by simp, by simp, by simp, q5⟩
      · exact .inl ⟨rfl, rfl, rfl⟩
    exact steps_nil
  rintro b a w' hall ⟨g3, g5, g8, ha, hI⟩
  have hl : ∀ j, j ≤ 9 → b j = true := fun j hj => hall j (by
    have : j = 0 ∨ j = 1 ∨ j = 2 ∨ j = 3 ∨ j = 4 ∨ j = 5 ∨ j = 6 ∨ j = 7 ∨ j = 8 ∨ j = 9 := by omega
    rcases this with rfl | rfl | rfl | rfl | rfl | rfl | rfl | rfl | rfl | rfl <;> rfl)
  have b0 := hl 0 (by decide)
  have b1 := hl 1 (by decide)
  have b2 := hl 2 (by decide)
  have b3 := hl 3 (by decide)
  have b4 := hl 4 (by decide)
  have b5 := hl 5 (by decide)
  have b6 := hl 6 (by decide)
  have b7 := hl 7 (by decide)
  have b8 := hl 8 (by decide)
  have b9 := hl 9 (by decide)
  have hF := hI.2 b9
  subst ha
  simp only [putSel, b0, b1, b2, b3, b4, b5, b6, b7, b8, if_true, Act.put, List.setIfInBounds_toArray, List.set_cons_zero, List.set_cons_succ, Exit.then]
  exact HK0.out _ _ (HEND.out _ g3 g5 g8 hF.bel (hF.at_ (3, g3, (.cells #[.bool true, .int .i64 1, .bool true, .int .i64 2] 25)) (by simp) b3).2 (hF.at_ (5, g5, (.cells #[.int .i64 2, .int .i64 4, .int .i64 1, .slice (some ⟨bf, 0, none⟩) 1 1, .slice none 0 0, .slice none 0 0, .int .i64 3, .int .i64 2, .int .i64 1, .slice (some ⟨g3, 0, none⟩) 2 2, .slice none 0 0, .slice none 0 0] 54)) (by simp) b5).2 (hF.at_ (8, g8, (.cells #[.slice (some ⟨g5, 0, none⟩) 2 2, .bool true, .int .i64 3] 27)) (by simp) b8).2 _ _ _ _ _ _ _ _ _ _ _ _ _ _ _ _ _ _ _ _ _ _ _ _ _ _ _ _ _ _ _ _ _ _ _ _ _ _ _ _ _ _ _ _ _ _ _ _ _ _)

set_option maxRecDepth 100000 in
set_option maxHeartbeats 16000000 in
theorem kn_region4 {W V : World} {X2 X3 bc : Nat} (hS : ∀ V2, Below V.heap.size V V2 → V2.cell? ⟨X3, 0, none⟩ = some (.int .i64 0) ∧ V2.cell? ⟨X3, 1, none⟩ = some (.int .i64 9) ∧ V2.cell? ⟨X3, 2, none⟩ = some (.int .i64 0) ∧ V2.cell? ⟨X3, 3, none⟩ = some (.slice (some ⟨bc, 0, none⟩) 1 1) ∧ V2.cell? ⟨X3, 4, none⟩ = some (.slice none 0 0) ∧ V2.cell? ⟨X3, 5, none⟩ = some (.slice none 0 0))
    (hend : ∀ (V2 : World) (ga gs gb gp : Nat), Below V.heap.size V V2 → V2.heap[ga]? = some (.cells #[.bool true, .int .i64 0, .bool false, .int .i64 5] 25) → V2.heap[gs]? = some (.cells #[.bool true, .int .i64 1] 25) → V2.heap[gb]? = some (.cells #[.int .i64 0, .int .i64 9, .int .i64 0, .slice (some ⟨bc, 0, none⟩) 1 1, .slice none 0 0, .slice none 0 0, .int .i64 1, .int .i64 6, .int .i64 0, .slice (some ⟨ga, 0, none⟩) 2 2, .slice none 0 0, .slice none 0 0, .int .i64 2, .int .i64 2, .int .i64 13, .slice (some ⟨gs, 0, none⟩) 1 1, .slice none 0 0, .slice none 0 0] 54) → V2.heap[gp]? = some (.cells #[.slice (some ⟨gb, 0, none⟩) 3 3, .bool false, .int .i64 0] 27) → ∀ (y0 y1 y3 y5 y6 y7 y8 y9 y10 y11 y12 y13 y14 y15 y16 y17 y18 y19 y20 y21 y22 y23 y24 y25 y26 y27 y28 y29 y30 y31 y32 y33 y34 y35 y36 y37 y38 y39 y40 y41 y42 y43 y44 y45 y46 y47 y48 y49 y50 : Value), knowsT5.wp Try.prog (bodyPost Try.prog Try.f8 (BoolBelow true W)) { tmps := #[y0, y1, .pointer (some ⟨X2, 0, none⟩), y3, .pointer (some ⟨gp, 0, none⟩), y5, y6, y7, y8, y9, y10, y11, y12, y13, y14, y15, y16, y17, y18, y19, y20, y21, y22, y23, y24, y25, y26, y27, y28, y29, y30, y31, y32, y33, y34, y35, y36, y37, y38, y39, y40, y41, y42, y43, y44, y45, y46, y47, y48, y49, y50], defers := [] } V2) (u0 u1 u4 u5 u6 u7 u8 u9 u10 u11 u12 u13 u14 u15 u16 u17 u18 u19 u20 u21 u22 u23 u24 u25 u26 u27 u28 u29 u30 u31 u32 u33 u34 u35 u36 u37 u38 u39 u40 u41 u42 u43 u44 u45 u46 u47 u48 u49 u50 : Value) :
    ∀ K : Act → World → Prop, (∀ a w, knowsT5.wp Try.prog (bodyPost Try.prog Try.f8 (BoolBelow true W)) a w → K a w) → knowsR4.wp Try.prog (Exit.then K (bodyPost Try.prog Try.f8 (BoolBelow true W))) { tmps := #[u0, u1, .pointer (some ⟨X2, 0, none⟩), .pointer (some ⟨X3, 0, none⟩), u4, u5, u6, u7, u8, u9, u10, u11, u12, u13, u14, u15, u16, u17, u18, u19, u20, u21, u22, u23, u24, u25, u26, u27, u28, u29, u30, u31, u32, u33, u34, u35, u36, u37, u38, u39, u40, u41, u42, u43, u44, u45, u46, u47, u48, u49, u50], defers := [] } V := by
  intro K hK0
  have HK0 := Lib.hid hK0
  have HEND := Lib.hid hend
  have HS := Lib.hid hS
  have D0 := Lib.hid (show Below V.heap.size V V.drew from (Below.refl _ _).drew)
  clear hK0 hend hS
  unfold knowsR4 Try.f8
  dsimp only
  refine start_ (n := 11) (S := fun w' => True) (ds := []) #[false, false, false, false, false, false, false, false, false, false, false] (by kernel_rfl) rfl rfl trivial (fun hHeld => ?_)
  clear hHeld
  refine inv_at (B := [0, 0, 2, 6, 14, 30, 62, 127, 255, 0, 1023]) [0, 1, 2, 3, 4, 5, 6, 7, 8, 9, 10] (fun a0_ b a w' => ∃ ga gs gb gp, a = putSel a0_ b [(0, 22, .agg #[.int .i64 0, .int .i64 9, .int .i64 0, .slice (some ⟨bc, 0, none⟩) 1 1, .slice none 0 0, .slice none 0 0]), (1, 23, .agg #[.bool true, .int .i64 0]), (2, 24, .agg #[.bool false, .int .i64 5]), (3, 25, .agg #[.int .i64 1, .int .i64 6, .int .i64 0, .slice (some ⟨ga, 0, none⟩) 2 2, .slice none 0 0, .slice none 0 0]), (4, 26, .agg #[.bool true, .int .i64 1]), (5, 27, .slice (some ⟨gs, 0, none⟩) 1 1), (6, 28, .agg #[.int .i64 2, .int .i64 2, .int .i64 13, .slice (some ⟨gs, 0, none⟩) 1 1, .slice none 0 0, .slice none 0 0]), (7, 29, .slice (some ⟨gb, 0, none⟩) 3 3), (8, 30, .agg #[.slice (some ⟨gb, 0, none⟩) 3 3, .bool false, .int .i64 0]), (9, 4, .pointer (some ⟨gp, 0, none⟩))] ∧ KI V b [(3, ga, (.cells #[.bool true, .int .i64 0, .bool false, .int .i64 5] 25)), (5, gs, (.cells #[.bool true, .int .i64 1] 25)), (7, gb, (.cells #[.int .i64 0, .int .i64 9, .int .i64 0, .slice (some ⟨bc, 0, none⟩) 1 1, .slice none 0 0, .slice none 0 0, .int .i64 1, .int .i64 6, .int .i64 0, .slice (some ⟨ga, 0, none⟩) 2 2, .slice none 0 0, .slice none 0 0, .int .i64 2, .int .i64 2, .int .i64 13, .slice (some ⟨gs, 0, none⟩) 1 1, .slice none 0 0, .slice none 0 0] 54)), (9, gp, (.cells #[.slice none 0 0, .bool false, .int .i64 0] 27))] [(3, ga, (.cells #[.bool true, .int .i64 0, .bool false, .int .i64 5] 25)), (5, gs, (.cells #[.bool true, .int .i64 1] 25)), (7, gb, (.cells #[.int .i64 0, .int .i64 9, .int .i64 0, .slice (some ⟨bc, 0, none⟩) 1 1, .slice none 0 0, .slice none 0 0, .int .i64 1, .int .i64 6, .int .i64 0, .slice (some ⟨ga, 0, none⟩) 2 2, .slice none 0 0, .slice none 0 0, .int .i64 2, .int .i64 2, .int .i64 13, .slice (some ⟨gs, 0, none⟩) 1 1, .slice none 0 0, .slice none 0 0] 54)), (9, gp, (.cells #[.slice (some ⟨gb, 0, none⟩) 3 3, .bool false, .int .i64 0] 27))] 10 w') rfl (by kernel_rfl) (by kernel_rfl) (by kernel_rfl) ?_ ?_ ?_
  · exact ⟨0, 0, 0, 0, by simp only [putSel, Bool.false_eq_true, if_false], KI.start D0.out⟩
  · skip
    refine steps_cons ?_ ?_
    · rintro b a w' ⟨ga, gs, gb, gp, ha, hI⟩ hb_ hon hoff
      refine ⟨_, rfl, fun K hK => ?_⟩
      have e3 : a.tmps[3]? = some (.pointer (some ⟨X3, 0, none⟩)) := by rw [ha]; exact (putSel_off rfl).trans rfl
      obtain ⟨z0, z1, z2, z3, z4, z5⟩ := HS.out w' (hI.1 (hoff 10 (by kernel_rfl))).bel
      have hL : b 10 = false := hoff 10 (by kernel_rfl)
      replace ha := Lib.hid ha
      have HI := Lib.hid hI
      clear hI
      refine value_ (w1 := w') (v := .agg #[.int .i64 0, .int .i64 9, .int .i64 0, .slice (some ⟨bc, 0, none⟩) 1 1, .slice none 0 0, .slice none 0 0]) (by rfl) rfl ?_ ?_
      · go_simp
        try rfl
      exact hK.out _ _ ⟨ga, gs, gb, gp, (by rw [ha.out]; exact putSel_upk 0 hb_ rfl rfl rfl), KI.step hL (by decide) ((HI.out.1 hL).pass (by rfl))⟩
    refine steps_cons ?_ ?_
    · rintro b a w' ⟨ga, gs, gb, gp, ha, hI⟩ hb_ hon hoff
      refine ⟨_, rfl, fun K hK => ?_⟩
      have hL : b 10 = false := hoff 10 (by kernel_rfl)
      replace ha := Lib.hid ha
      have HI := Lib.hid hI
      clear hI
      refine goes_ Try.func16 (by kernel_rfl) rfl #[.int .i64 0] (by rfl) rfl rfl (by first | (simp only [List.map_toArray, List.map_cons, List.map_nil, Act.eval, Array.getD_eq_getD_getElem?, Option.getD_some]; done) | (simp only [List.map_toArray, List.map_cons, List.map_nil, Act.eval, Array.getD_eq_getD_getElem?, Option.getD_some]; rfl)) ?_
      refine (mkvar_any 0 w').mono ?_
      rintro e w2 ⟨rfl, hb2⟩
      exact ⟨_, rfl, hK.out _ _ ⟨ga, gs, gb, gp, (by rw [ha.out]; exact putSel_upk 1 hb_ rfl rfl rfl), KI.step hL (by decide) ((HI.out.1 hL).grow hb2 (by rfl))⟩⟩
    refine steps_cons ?_ ?_
    · rintro b a w' ⟨ga, gs, gb, gp, ha, hI⟩ hb_ hon hoff
      refine ⟨_, rfl, fun K hK => ?_⟩
      have hL : b 10 = false := hoff 10 (by kernel_rfl)
      replace ha := Lib.hid ha
      have HI := Lib.hid hI
      clear hI
      refine goes_ Try.func17 (by kernel_rfl) rfl #[.int .i64 5] (by rfl) rfl rfl (by first | (simp only [List.map_toArray, List.map_cons, List.map_nil, Act.eval, Array.getD_eq_getD_getElem?, Option.getD_some]; done) | (simp only [List.map_toArray, List.map_cons, List.map_nil, Act.eval, Array.getD_eq_getD_getElem?, Option.getD_some]; rfl)) ?_
      refine (mkint_any 5 w').mono ?_
      rintro e w2 ⟨rfl, hb2⟩
      exact ⟨_, rfl, hK.out _ _ ⟨ga, gs, gb, gp, (by rw [ha.out]; exact putSel_upk 2 hb_ rfl rfl rfl), KI.step hL (by decide) ((HI.out.1 hL).grow hb2 (by rfl))⟩⟩
    refine steps_cons ?_ ?_
    · rintro b a w' ⟨ga, gs, gb, gp, ha, hI⟩ hb_ hon hoff
      refine ⟨_, rfl, fun K hK => ?_⟩
      have e23 : a.tmps[23]? = some (.agg #[.bool true, .int .i64 0]) := by rw [ha]; exact putSel_on (e := (1, 23, .agg #[.bool true, .int .i64 0])) 1 rfl rfl (hon 1 (by kernel_rfl)) rfl
      have e24 : a.tmps[24]? = some (.agg #[.bool false, .int .i64 5]) := by rw [ha]; exact putSel_on (e := (2, 24, .agg #[.bool false, .int .i64 5])) 2 rfl rfl (hon 2 (by kernel_rfl)) rfl
      have o7 : b 7 = false := hoff 7 (by kernel_rfl)
      have hL : b 10 = false := hoff 10 (by kernel_rfl)
      replace ha := Lib.hid ha
      have HI := Lib.hid hI
      clear hI
      refine goes_ Try.func15 (by kernel_rfl) rfl #[.int .i64 1, .agg #[.bool true, .int .i64 0], .agg #[.bool false, .int .i64 5]] (by rfl) rfl rfl (by first | (simp only [List.map_toArray, List.map_cons, List.map_nil, Act.eval, Array.getD_eq_getD_getElem?, Option.getD_some, e23, e24]; done) | (simp only [List.map_toArray, List.map_cons, List.map_nil, Act.eval, Array.getD_eq_getD_getElem?, Option.getD_some, e23, e24]; rfl)) ?_
      refine (mkapp_any 1 true false 0 5 w').mono ?_
      rintro e w2 ⟨gn, rfl, hg1, hg2, hb2⟩
      refine ⟨_, rfl, hK.out _ _ ⟨gn, gs, gb, gp, (by rw [ha.out, putSel_dep (L' := [(0, 22, .agg #[.int .i64 0, .int .i64 9, .int .i64 0, .slice (some ⟨bc, 0, none⟩) 1 1, .slice none 0 0, .slice none 0 0]), (1, 23, .agg #[.bool true, .int .i64 0]), (2, 24, .agg #[.bool false, .int .i64 5]), (3, 25, .agg #[.int .i64 1, .int .i64 6, .int .i64 0, .slice (some ⟨ga, 0, none⟩) 2 2, .slice none 0 0, .slice none 0 0]), (4, 26, .agg #[.bool true, .int .i64 1]), (5, 27, .slice (some ⟨gs, 0, none⟩) 1 1), (6, 28, .agg #[.int .i64 2, .int .i64 2, .int .i64 13, .slice (some ⟨gs, 0, none⟩) 1 1, .slice none 0 0, .slice none 0 0]), (7, 29, .slice (some ⟨gb, 0, none⟩) 3 3), (8, 30, .agg #[.slice (some ⟨gb, 0, none⟩) 3 3, .bool false, .int .i64 0]), (9, 4, .pointer (some ⟨gp, 0, none⟩))]) (.same (.same (.same (.same (.same (.same (.same (.same (.same (.same (.nil)))))))))))]; exact putSel_upk 3 hb_ rfl rfl rfl), KI.step hL (by decide) ((HI.out.1 hL).made 3 hb2 hg1 hg2 ?_)⟩⟩
      intro x hx
      simp only [List.mem_cons, List.not_mem_nil, or_false] at hx
      rcases hx with rfl | rfl | rfl | rfl
      · exact .inl rfl
      · exact .inr ⟨by simp, .inl (by simp)⟩
      · exact .inr ⟨by simp, .inr o7⟩
      · exact .inr ⟨by simp, .inl (by simp)⟩
    refine steps_cons ?_ ?_
    · rintro b a w' ⟨ga, gs, gb, gp, ha, hI⟩ hb_ hon hoff
      refine ⟨_, rfl, fun K hK => ?_⟩
      have hL : b 10 = false := hoff 10 (by kernel_rfl)
      replace ha := Lib.hid ha
      have HI := Lib.hid hI
      clear hI
      refine goes_ Try.func16 (by kernel_rfl) rfl #[.int .i64 1] (by rfl) rfl rfl (by first | (simp only [List.map_toArray, List.map_cons, List.map_nil, Act.eval, Array.getD_eq_getD_getElem?, Option.getD_some]; done) | (simp only [List.map_toArray, List.map_cons, List.map_nil, Act.eval, Array.getD_eq_getD_getElem?, Option.getD_some]; rfl)) ?_
      refine (mkvar_any 1 w').mono ?_
      rintro e w2 ⟨rfl, hb2⟩
      exact ⟨_, rfl, hK.out _ _ ⟨ga, gs, gb, gp, (by rw [ha.out]; exact putSel_upk 4 hb_ rfl rfl rfl), KI.step hL (by decide) ((HI.out.1 hL).grow hb2 (by rfl))⟩⟩
    refine steps_cons ?_ ?_
    · rintro b a w' ⟨ga, gs, gb, gp, ha, hI⟩ hb_ hon hoff
      refine ⟨_, rfl, fun K hK => ?_⟩
      have e26 : a.tmps[26]? = some (.agg #[.bool true, .int .i64 1]) := by rw [ha]; exact putSel_on (e := (4, 26, .agg #[.bool true, .int .i64 1])) 4 rfl rfl (hon 4 (by kernel_rfl)) rfl
      have o6 : b 6 = false := hoff 6 (by kernel_rfl)
      have o7 : b 7 = false := hoff 7 (by kernel_rfl)
      have hL : b 10 = false := hoff 10 (by kernel_rfl)
      replace ha := Lib.hid ha
      have HI := Lib.hid hI
      clear hI
      refine value_ (w1 := w'.alloc (.cells #[.bool true, .int .i64 1] 25)) (v := .slice (some ⟨w'.heap.size, 0, none⟩) 1 1) (by rfl) rfl ?_ ?_
      · go_simp
        try rfl
      refine hK.out _ _ ⟨ga, w'.heap.size, gb, gp, (by rw [ha.out, putSel_dep (L' := [(0, 22, .agg #[.int .i64 0, .int .i64 9, .int .i64 0, .slice (some ⟨bc, 0, none⟩) 1 1, .slice none 0 0, .slice none 0 0]), (1, 23, .agg #[.bool true, .int .i64 0]), (2, 24, .agg #[.bool false, .int .i64 5]), (3, 25, .agg #[.int .i64 1, .int .i64 6, .int .i64 0, .slice (some ⟨ga, 0, none⟩) 2 2, .slice none 0 0, .slice none 0 0]), (4, 26, .agg #[.bool true, .int .i64 1]), (5, 27, .slice (some ⟨gs, 0, none⟩) 1 1), (6, 28, .agg #[.int .i64 2, .int .i64 2, .int .i64 13, .slice (some ⟨w'.heap.size, 0, none⟩) 1 1, .slice none 0 0, .slice none 0 0]), (7, 29, .slice (some ⟨gb, 0, none⟩) 3 3), (8, 30, .agg #[.slice (some ⟨gb, 0, none⟩) 3 3, .bool false, .int .i64 0]), (9, 4, .pointer (some ⟨gp, 0, none⟩))]) (.same (.same (.same (.same (.same (.same (.turn o6 (.same (.same (.same (.nil)))))))))))]; exact putSel_upk 5 hb_ rfl rfl rfl), KI.step hL (by decide) ((HI.out.1 hL).new 5 _ ?_)⟩
      intro x hx
      simp only [List.mem_cons, List.not_mem_nil, or_false] at hx
      rcases hx with rfl | rfl | rfl | rfl
      · exact .inr ⟨by simp, .inl (by simp)⟩
      · exact .inl rfl
      · exact .inr ⟨by simp, .inr o7⟩
      · exact .inr ⟨by simp, .inl (by simp)⟩
    refine steps_cons ?_ ?_
    · rintro b a w' ⟨ga, gs, gb, gp, ha, hI⟩ hb_ hon hoff
      refine ⟨_, rfl, fun K hK => ?_⟩
      have e27 : a.tmps[27]? = some (.slice (some ⟨gs, 0, none⟩) 1 1) := by rw [ha]; exact putSel_on (e := (5, 27, .slice (some ⟨gs, 0, none⟩) 1 1)) 5 rfl rfl (hon 5 (by kernel_rfl)) rfl
      have hL : b 10 = false := hoff 10 (by kernel_rfl)
      replace ha := Lib.hid ha
      have HI := Lib.hid hI
      clear hI
      refine goes_ Try.func19 (by kernel_rfl) rfl #[.int .i64 2, .int .i64 13, .slice (some ⟨gs, 0, none⟩) 1 1] (by rfl) rfl rfl (by first | (simp only [List.map_toArray, List.map_cons, List.map_nil, Act.eval, Array.getD_eq_getD_getElem?, Option.getD_some, e27]; done) | (simp only [List.map_toArray, List.map_cons, List.map_nil, Act.eval, Array.getD_eq_getD_getElem?, Option.getD_some, e27]; rfl)) ?_
      refine (mkbind_any 2 13 _ 1 1 w').mono ?_
      rintro e w2 ⟨rfl, hb2⟩
      exact ⟨_, rfl, hK.out _ _ ⟨ga, gs, gb, gp, (by rw [ha.out]; exact putSel_upk 6 hb_ rfl rfl rfl), KI.step hL (by decide) ((HI.out.1 hL).grow hb2 (by rfl))⟩⟩
    refine steps_cons ?_ ?_
    · rintro b a w' ⟨ga, gs, gb, gp, ha, hI⟩ hb_ hon hoff
      refine ⟨_, rfl, fun K hK => ?_⟩
      have e22 : a.tmps[22]? = some (.agg #[.int .i64 0, .int .i64 9, .int .i64 0, .slice (some ⟨bc, 0, none⟩) 1 1, .slice none 0 0, .slice none 0 0]) := by rw [ha]; exact putSel_on (e := (0, 22, .agg #[.int .i64 0, .int .i64 9, .int .i64 0, .slice (some ⟨bc, 0, none⟩) 1 1, .slice none 0 0, .slice none 0 0])) 0 rfl rfl (hon 0 (by kernel_rfl)) rfl
      have e25 : a.tmps[25]? = some (.agg #[.int .i64 1, .int .i64 6, .int .i64 0, .slice (some ⟨ga, 0, none⟩) 2 2, .slice none 0 0, .slice none 0 0]) := by rw [ha]; exact putSel_on (e := (3, 25, .agg #[.int .i64 1, .int .i64 6, .int .i64 0, .slice (some ⟨ga, 0, none⟩) 2 2, .slice none 0 0, .slice none 0 0])) 3 rfl rfl (hon 3 (by kernel_rfl)) rfl
      have e28 : a.tmps[28]? = some (.agg #[.int .i64 2, .int .i64 2, .int .i64 13, .slice (some ⟨gs, 0, none⟩) 1 1, .slice none 0 0, .slice none 0 0]) := by rw [ha]; exact putSel_on (e := (6, 28, .agg #[.int .i64 2, .int .i64 2, .int .i64 13, .slice (some ⟨gs, 0, none⟩) 1 1, .slice none 0 0, .slice none 0 0])) 6 rfl rfl (hon 6 (by kernel_rfl)) rfl
      have o8 : b 8 = false := hoff 8 (by kernel_rfl)
      have hL : b 10 = false := hoff 10 (by kernel_rfl)
      replace ha := Lib.hid ha
      have HI := Lib.hid hI
      clear hI
      refine value_ (w1 := w'.alloc (.cells #[.int .i64 0, .int .i64 9, .int .i64 0, .slice (some ⟨bc, 0, none⟩) 1 1, .slice none 0 0, .slice none 0 0, .int .i64 1, .int .i64 6, .int .i64 0, .slice (some ⟨ga, 0, none⟩) 2 2, .slice none 0 0, .slice none 0 0, .int .i64 2, .int .i64 2, .int .i64 13, .slice (some ⟨gs, 0, none⟩) 1 1, .slice none 0 0, .slice none 0 0] 54)) (v := .slice (some ⟨w'.heap.size, 0, none⟩) 3 3) (by rfl) rfl ?_ ?_
      · go_simp
        try rfl
      refine hK.out _ _ ⟨ga, gs, w'.heap.size, gp, (by rw [ha.out, putSel_dep (L' := [(0, 22, .agg #[.int .i64 0, .int .i64 9, .int .i64 0, .slice (some ⟨bc, 0, none⟩) 1 1, .slice none 0 0, .slice none 0 0]), (1, 23, .agg #[.bool true, .int .i64 0]), (2, 24, .agg #[.bool false, .int .i64 5]), (3, 25, .agg #[.int .i64 1, .int .i64 6, .int .i64 0, .slice (some ⟨ga, 0, none⟩) 2 2, .slice none 0 0, .slice none 0 0]), (4, 26, .agg #[.bool true, .int .i64 1]), (5, 27, .slice (some ⟨gs, 0, none⟩) 1 1), (6, 28, .agg #[.int .i64 2, .int .i64 2, .int .i64 13, .slice (some ⟨gs, 0, none⟩) 1 1, .slice none 0 0, .slice none 0 0]), (7, 29, .slice (some ⟨gb, 0, none⟩) 3 3), (8, 30, .agg #[.slice (some ⟨w'.heap.size, 0, none⟩) 3 3, .bool false, .int .i64 0]), (9, 4, .pointer (some ⟨gp, 0, none⟩))]) (.same (.same (.same (.same (.same (.same (.same (.same (.turn o8 (.same (.nil)))))))))))]; exact putSel_upk 7 hb_ rfl rfl rfl), KI.step hL (by decide) ((HI.out.1 hL).new 7 _ ?_)⟩
      intro x hx
      simp only [List.mem_cons, List.not_mem_nil, or_false] at hx
      rcases hx with rfl | rfl | rfl | rfl
      · exact .inr ⟨by simp, .inl (by simp)⟩
      · exact .inr ⟨by simp, .inl (by simp)⟩
      · exact .inl rfl
      · exact .inr ⟨by simp, .inl (by simp)⟩
    refine steps_cons ?_ ?_
    · rintro b a w' ⟨ga, gs, gb, gp, ha, hI⟩ hb_ hon hoff
      refine ⟨_, rfl, fun K hK => ?_⟩
      have e29 : a.tmps[29]? = some (.slice (some ⟨gb, 0, none⟩) 3 3) := by rw [ha]; exact putSel_on (e := (7, 29, .slice (some ⟨gb, 0, none⟩) 3 3)) 7 rfl rfl (hon 7 (by kernel_rfl)) rfl
      have hL : b 10 = false := hoff 10 (by kernel_rfl)
      replace ha := Lib.hid ha
      have HI := Lib.hid hI
      clear hI
      refine value_ (w1 := w') (v := .agg #[.slice (some ⟨gb, 0, none⟩) 3 3, .bool false, .int .i64 0]) (by rfl) rfl ?_ ?_
      · go_simp
        try rfl
      exact hK.out _ _ ⟨ga, gs, gb, gp, (by rw [ha.out]; exact putSel_upk 8 hb_ rfl rfl rfl), KI.step hL (by decide) ((HI.out.1 hL).pass (by rfl))⟩
    refine steps_cons ?_ ?_
    · rintro b a w' ⟨ga, gs, gb, gp, ha, hI⟩ hb_ hon hoff
      refine ⟨_, rfl, fun K hK => ?_⟩
      have hL : b 10 = false := hoff 10 (by kernel_rfl)
      replace ha := Lib.hid ha
      have HI := Lib.hid hI
      clear hI
      refine value_ (w1 := w'.alloc (.cells #[.slice none 0 0, .bool false, .int .i64 0] 27)) (v := .pointer (some ⟨w'.heap.size, 0, none⟩)) (by rfl) rfl ?_ ?_
      · go_simp
        try rfl
      refine hK.out _ _ ⟨ga, gs, gb, w'.heap.size, (by rw [ha.out, putSel_dep (L' := [(0, 22, .agg #[.int .i64 0, .int .i64 9, .int .i64 0, .slice (some ⟨bc, 0, none⟩) 1 1, .slice none 0 0, .slice none 0 0]), (1, 23, .agg #[.bool true, .int .i64 0]), (2, 24, .agg #[.bool false, .int .i64 5]), (3, 25, .agg #[.int .i64 1, .int .i64 6, .int .i64 0, .slice (some ⟨ga, 0, none⟩) 2 2, .slice none 0 0, .slice none 0 0]), (4, 26, .agg #[.bool true, .int .i64 1]), (5, 27, .slice (some ⟨gs, 0, none⟩) 1 1), (6, 28, .agg #[.int .i64 2, .int .i64 2, .int .i64 13, .slice (some ⟨gs, 0, none⟩) 1 1, .slice none 0 0, .slice none 0 0]), (7, 29, .slice (some ⟨gb, 0, none⟩) 3 3), (8, 30, .agg #[.slice (some ⟨gb, 0, none⟩) 3 3, .bool false, .int .i64 0]), (9, 4, .pointer (some ⟨gp, 0, none⟩))]) (.same (.same (.same (.same (.same (.same (.same (.same (.same (.same (.nil)))))))))))]; exact putSel_upk 9 hb_ rfl rfl rfl), KI.step hL (by decide) ((HI.out.1 hL).new 9 _ ?_)⟩
      intro x hx
      simp only [List.mem_cons, List.not_mem_nil, or_false] at hx
      rcases hx with rfl | rfl | rfl | rfl
      · exact .inr ⟨by simp, .inl (by simp)⟩
      · exact .inr ⟨by simp, .inl (by simp)⟩
      · exact .inr ⟨by simp, .inl (by simp)⟩
      · exact .inl rfl
    refine steps_cons ?_ ?_
    · rintro b a w' ⟨ga, gs, gb, gp, ha, hI⟩ hb_ hon hoff
      refine ⟨_, rfl, fun K hK => ?_⟩
      have e30 : a.tmps[30]? = some (.agg #[.slice (some ⟨gb, 0, none⟩) 3 3, .bool false, .int .i64 0]) := by rw [ha]; exact putSel_on (e := (8, 30, .agg #[.slice (some ⟨gb, 0, none⟩) 3 3, .bool false, .int .i64 0])) 8 rfl rfl (hon 8 (by kernel_rfl)) rfl
      have e4 : a.tmps[4]? = some (.pointer (some ⟨gp, 0, none⟩)) := by rw [ha]; exact putSel_on (e := (9, 4, .pointer (some ⟨gp, 0, none⟩))) 9 rfl rfl (hon 9 (by kernel_rfl)) rfl
      have q3 := hon 3 (by kernel_rfl)
      have q5 := hon 5 (by kernel_rfl)
      have q7 := hon 7 (by kernel_rfl)
      have q9 := hon 9 (by kernel_rfl)
      replace ha := Lib.hid ha
      have HI := Lib.hid hI
      clear hI
      obtain ⟨y0, y1, y2, y3⟩ := zero3 (HI.out.1 hb_) (i := 9) (g := gp) (c0 := .slice none 0 0) (c1 := .bool false) (c2 := .int .i64 0) (t := 27) (by simp) q9
      refine skip_ (w1 := set3 w' gp (.slice (some ⟨gb, 0, none⟩) 3 3) (.bool false) (.int .i64 0)) (by rfl) rfl ?_ ?_
      · unfold set3
        go_simp
        try rfl
      refine hK.out _ _ ⟨ga, gs, gb, gp, (by rw [ha.out]; exact (putSel_skip rfl).symm), KI.last ((HI.out.1 hb_).set3 _ _ _ (i := 9) (g := gp) (c0 := .slice none 0 0) (c1 := .bool false) (c2 := .int .i64 0) (t := 27) (by simp) q9 ?_)⟩
      intro x hx
      simp only [List.mem_cons, List.not_mem_nil, or_false] at hx
      rcases hx with rfl | rfl | rfl | rfl
      · exact .inr ⟨by simp, by simp, by simp, q3⟩
      · exact .inr ⟨by simp, by simp, by simp, q5⟩
      · exact .inr ⟨by simp, by simp, by simp, q7⟩
      · exact .inl ⟨rfl, rfl, rfl⟩
    exact steps_nil
  rintro b a w' hall ⟨ga, gs, gb, gp, ha, hI⟩
  have hl : ∀ j, j ≤ 10 → b j = true := fun j hj => hall j (by
    have : j = 0 ∨ j = 1 ∨ j = 2 ∨ j = 3 ∨ j = 4 ∨ j = 5 ∨ j = 6 ∨ j = 7 ∨ j = 8 ∨ j = 9 ∨ j = 10 := by omega
    rcases this with rfl | rfl | rfl | rfl | rfl | rfl | rfl | rfl | rfl | rfl | rfl <;> rfl)
  have b0 := hl 0 (by decide)
  have b1 := hl 1 (by decide)
  have b2 := hl 2 (by decide)
  have b3 := hl 3 (by decide)
  have b4 := hl 4 (by decide)
  have b5 := hl 5 (by decide)
  have b6 := hl 6 (by decide)
  have b7 := hl 7 (by decide)
  have b8 := hl 8 (by decide)
  have b9 := hl 9 (by decide)
  have b10 := hl 10 (by decide)
  have hF := hI.2 b10
  subst ha
  simp only [putSel, b0, b1, b2, b3, b4, b5, b6, b7, b8, b9, if_true, Act.put, List.setIfInBounds_toArray, List.set_cons_zero, List.set_cons_succ, Exit.then]
  exact HK0.out _ _ (HEND.out _ ga gs gb gp hF.bel (hF.at_ (3, ga, (.cells #[.bool true, .int .i64 0, .bool false, .int .i64 5] 25)) (by simp) b3).2 (hF.at_ (5, gs, (.cells #[.bool true, .int .i64 1] 25)) (by simp) b5).2 (hF.at_ (7, gb, (.cells #[.int .i64 0, .int .i64 9, .int .i64 0, .slice (some ⟨bc, 0, none⟩) 1 1, .slice none 0 0, .slice none 0 0, .int .i64 1, .int .i64 6, .int .i64 0, .slice (some ⟨ga, 0, none⟩) 2 2, .slice none 0 0, .slice none 0 0, .int .i64 2, .int .i64 2, .int .i64 13, .slice (some ⟨gs, 0, none⟩) 1 1, .slice none 0 0, .slice none 0 0] 54)) (by simp) b7).2 (hF.at_ (9, gp, (.cells #[.slice (some ⟨gb, 0, none⟩) 3 3, .bool false, .int .i64 0] 27)) (by simp) b9).2 _ _ _ _ _ _ _ _ _ _ _ _ _ _ _ _ _ _ _ _ _ _ _ _ _ _ _ _ _ _ _ _ _ _ _ _ _ _ _ _ _ _ _ _ _ _ _ _ _)
end Go.Proofs.Ytnobggabjpcbfaa
