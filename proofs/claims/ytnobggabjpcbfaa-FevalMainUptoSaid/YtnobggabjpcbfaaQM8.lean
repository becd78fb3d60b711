/-
  4 texts of this seat in one: H17 H18 H19 H20.
-/
import Derived.Test.YtnobggabjpcbfaaQM7
import Derived.StillTailTactics
import Derived.Test.YtnobggabjpcbfaaQM2
/-
  The flat evaluator: bodies.
-/
set_option linter.unusedVariables false
set_option linter.unusedSimpArgs false
namespace Go.Proofs.Ytnobggabjpcbfaa
open Go.RowKit

section
variable {rb B : Nat} {p : FlatP} {inp : List Int} {fuel n : Nat} {s : FSt} {m : Mem} {W : World}
theorem evF_ret (funs : List FFun) (inp : List Int) {k : Nat} (hk : 0 < k) (a : Atm) (e : PEnv) (s : FSt) : evF funs inp k (.ret a) e s = match atomP e a with | some v => (.val v, s) | none => (.stuck, s) := by
  obtain ⟨k, rfl⟩ : ∃ q, k = q + 1 := ⟨k - 1, by omega⟩
  rfl
theorem evF_cut (funs : List FFun) (inp : List Int) {k : Nat} (hk : 0 < k) (x kd nn : Int) (ats : List Atm) (ks : List Int) (bl : List Anf) (rest : Anf) (e : PEnv) (s : FSt) (h : s.left = 0) : evF funs inp k (.bind x kd nn ats ks bl rest) e s = (.cut, s) := by
  obtain ⟨k, rfl⟩ : ∃ q, k = q + 1 := ⟨k - 1, by omega⟩
  unfold evF
  rw [if_pos h]
theorem evF_group (funs : List FFun) (inp : List Int) {k : Nat} (x nn : Int) (ats : List Atm) (ks : List Int) (bl : List Anf) (rest : Anf) (e : PEnv) (s : FSt) (h : 0 < s.left) :
    evF funs inp (k + 1) (.bind x 10 nn ats ks bl rest) e s = match atomsP (groupEnv ks s.made.length e) ats with | some l => evF funs inp k rest (groupEnv ks s.made.length e) { s with left := s.left - 1, made := s.made ++ groupMade ks l } | none => (.stuck, { s with left := s.left - 1 }) := by
  show (if s.left = 0 then _ else _) = _
  rw [if_neg (by omega)]
  simp only [bindF, if_true]
  cases atomsP (groupEnv ks s.made.length e) ats <;> rfl
theorem evF_side (p : FlatP) (inp : List Int) {k : Nat} (x kd nn : Int) (ats : List Atm) (ks : List Int) (bl : List Anf) (rest : Anf) (e : PEnv) (s : FSt) (h : 0 < s.left) (hk : kd ≠ 10) :
    evF p.funs inp (k + 1) (.bind x kd nn ats ks bl rest) e s = FOut.andThen (sideF p inp k kd nn ats ks bl e { s with left := s.left - 1 }) fun v s => evF p.funs inp k rest ((x, v) :: e) s := by
  show (if s.left = 0 then _ else _) = _
  rw [if_neg (by omega)]
  simp only [bindF, if_neg hk, sideF]
  cases atomsP e ats <;> rfl

theorem sideF_le (inp : List Int) (n : Nat) (k nn : Int) (ats : List Atm) (ks : List Int) (bl : List Anf) (e : PEnv) (s : FSt) : LeF s (sideF p inp n k nn ats ks bl e s).2 1 := by
  unfold sideF
  cases atomsP e ats with
  | some l => exact rhsF_le (funs := p.funs) (inp := inp) (evF_le p.funs inp n) k nn l ks bl e s
  | none => exact LeF.refl _ _
theorem WfA.tail {nf : Nat} : ∀ {t : Anf}, WfA nf t → ∀ j, WfA nf (t.tail j)
  | t, h, 0 => by rw [Anf.tail_zero]; exact h
  | .ret a, h, j + 1 => h
  | .bind _ _ _ _ _ _ r, h, j + 1 => by
    cases h with
    | bind _ _ hr => exact hr.tail j
/-- what stands behind some binds -/
structure BodyAt (rb B : Nat) (p : FlatP) (inp : List Int) (fuel n : Nat) (m : Mem) (W W0 : World) (t : Anf) (out : FOut) (j : Nat) (kv : Value) (wr : World) (e : PEnv) (s : FSt) (mj : Mem) (k : Nat) : Prop where
  env : EnvIn rb mj wr e kv
  good : Good rb B p inp fuel s mj wr
  evo : Evo rb m mj W0 wr
  out : out = evF p.funs inp k (t.tail j) e s
  lt : s.left < k
  le : k ≤ n
set_option maxRecDepth 100000 in
set_option maxHeartbeats 4000000 in
theorem body_step (hok : ∀ k, k < n → BodyOk rb B p inp fuel k) (hwf : ∀ g ∈ p.funs, WfA p.funs.length g.body) : BodyOk rb B p inp fuel n := by
  intro t e s m W ga ge hin hwt he hg hn
  obtain ⟨A, c, b, o, rfl, hc, h96, hA, hB⟩ := hin.at_
  obtain ⟨pk, rfl⟩ := he.shape
  obtain ⟨W0, hW0⟩ : ∃ W0, W.alloc (.cells #[.slice A t.len c, .bool t.last.v, .int .i64 t.last.n] 27) = W0 := ⟨_, rfl⟩
  have hb0 : Below W.heap.size W W0 := by rw [← hW0]; exact (Below.refl _ _).alloc (Nat.le_refl _) _
  have hE0 : Evo rb m m W W0 := Evo.below hb0
  have hat : At rb m W0 W.heap.size (.cells #[.slice A t.len c, .bool t.last.v, .int .i64 t.last.n] 27 (0, 0)) := by rw [← hW0]; exact at_new (fun k hk => hg.mutLt hk) _ _
  have HC := Lib.hid (fun (V : World) (m' : Mem) (hE : Evo rb m m' W0 V) => (show V.cell? ⟨W.heap.size, 0, none⟩ = some (.slice A t.len c) ∧ V.cell? ⟨W.heap.size, 1, none⟩ = some (.bool t.last.v) ∧ V.cell? ⟨W.heap.size, 2, none⟩ = some (.int .i64 t.last.n) from
    ⟨at_cell0 (hat.evo hE) rfl, at_cell0 (hat.evo hE) rfl, at_cell0 (hat.evo hE) rfl⟩))
  have c0 := ((HC.out W0 m (Evo.refl _ _ _))).1
  have HBI := Lib.hid (fun (j : Nat) (hj : j < t.len) (V : World) (m' : Mem) (hE : Evo rb m m' W0 V) =>
    (show ∃ x k nn ats ks bl Aa ca Ak ck Al cl, A = some ⟨b, o, none⟩ ∧ t.tail j = .bind x k nn ats ks bl (t.tail (j + 1)) ∧ V.cell? ⟨b, o + j * 6, none⟩ = some (.int .i64 x) ∧ V.cell? ⟨b, o + j * 6 + 1, none⟩ = some (.int .i64 k) ∧ V.cell? ⟨b, o + j * 6 + 2, none⟩ = some (.int .i64 nn) ∧
        V.cell? ⟨b, o + j * 6 + 3, none⟩ = some (.slice Aa ats.length ca) ∧ V.cell? ⟨b, o + j * 6 + 4, none⟩ = some (.slice Ak ks.length ck) ∧ V.cell? ⟨b, o + j * 6 + 5, none⟩ = some (.slice Al bl.length cl) ∧
        BindOk p.funs.length x k nn ats ks bl.length ∧ AtomsIn B V Aa ats ∧ IntsIn B V Ak ks ∧ ks.length ≤ ck ∧ BlocksIn B V Al bl ∧ bl.length ≤ cl ∧ (∀ c ∈ bl, WfA p.funs.length c) from by
      obtain ⟨x, k, nn, ats, ks, bl, Aa, ca, Ak, ck, Al, cl, h1, h2⟩ := hB j hj
      have hbV : Below B W V := (hb0.mono hg.Bs).trans ((hg.below hb0).stay hE)
      have hw : WfA p.funs.length (.bind x k nn ats ks bl (t.tail (j + 1))) := by rw [← h1]; exact hwt.tail j
      cases hw with
      | bind hbe hbb hbr =>
        refine ⟨x, k, nn, ats, ks, bl, Aa, ca, Ak, ck, Al, cl, hA (by omega), h1, (hbV.cell (p := ⟨_, _, none⟩) h2.lt).trans h2.c0, (hbV.cell (p := ⟨_, _, none⟩) h2.lt).trans h2.c1, (hbV.cell (p := ⟨_, _, none⟩) h2.lt).trans h2.c2, (hbV.cell (p := ⟨_, _, none⟩) h2.lt).trans h2.c3, (hbV.cell (p := ⟨_, _, none⟩) h2.lt).trans h2.c4, (hbV.cell (p := ⟨_, _, none⟩) h2.lt).trans h2.c5,
          bindOk_of hbe, h2.ha.below hbV, h2.hk.below hbV, h2.hkc, ⟨h2.hl8, fun q hq => ?_⟩, h2.hlc, hbb⟩
        obtain ⟨bb, oo, g0, g1, g2, e1, e2, e3, e4, e5, hbd⟩ := h2.blk q hq
        exact ⟨bb, oo, g0, g1, g2, e1, e2, (hbV.cell (p := ⟨_, _, none⟩) e2).trans e3, (hbV.cell (p := ⟨_, _, none⟩) e2).trans e4, (hbV.cell (p := ⟨_, _, none⟩) e2).trans e5, hbd.kept hbV⟩))
  have HT := Lib.hid (Anf.tail_ret t)
  have HWB := Lib.hid (hg.Bs)
  have HOK := Lib.hid hok
  have HWF := Lib.hid hwf
  have HE0 := Lib.hid hE0
  obtain ⟨out, hout⟩ : ∃ out, evF p.funs inp n t e s = out := ⟨_, rfl⟩
  have hst : BodyAt rb B p inp fuel n m W W0 t out 0 (.pointer pk) W0 e s m n := ⟨he.evo hE0, hg.below hb0, Evo.refl _ _ _, by rw [Anf.tail_zero]; exact hout.symm, hn, Nat.le_refl _⟩
  have HST := Lib.hid hst
  rw [hout]
  clear hst hout hat hB hin he hg hb0 hE0 hok hwf hwt hn hA
  have hT64 : t.len ≤ 2000000000000 := by omega
  obtain ⟨T, hT⟩ : ∃ T, t.len = T := ⟨_, rfl⟩
  rw [hT] at hc h96 hW0 HC c0 HBI HT hT64 ⊢
  clear hT h96
  go_enter Try.func36, Try.ntmps36
  go_wp2_with fail
  go_loopw [2, 12] (fun kv iv wr => ∃ (j : Nat) (e' : PEnv) (s' : FSt) (mj : Mem) (k : Nat), j ≤ T ∧ iv = .int .i64 (j : Int) ∧ Hid (BodyAt rb B p inp fuel n m W W0 t out j kv wr e' s' mj k)) (fun _ iv _ => T + 1 - (intOf iv).toNat)
  case atStart => exact ⟨0, e, s, m, n, by omega, rfl, HST⟩
  case round =>
    obtain ⟨j, e', s', mj, k, hj, rfl, HJ⟩ := hrel
    obtain ⟨pj, rfl⟩ := HJ.out.env.shape
    obtain ⟨q0, q1, q2⟩ := HC.out wr mj HJ.out.evo
    by_cases hlt : j < T
    · obtain ⟨x, kd, nn, ats, ks, bl, Aa, ca, Ak, ck, Al, cl, rfl, htail, r0, r1, r2, r3, r4, r5, hbo, hats, hks, hkc, hbl, hblc, hwb⟩ := HBI.out j hlt wr mj HJ.out.evo
      have hj0 : (0 : Int) ≤ (j : Int) := by omega
      have hjl : (j : Int) < (T : Int) := by omega
      have hjc : (T : Int) ≤ (c : Int) := by omega
      have w1 : IntKind.i64.wrap ((j : Int) + 1) = (j : Int) + 1 := by rw [IntKind.wrap_i64]; omega
      obtain ⟨W1, hW1⟩ : ∃ W1, wr.alloc (.cells #[.int .i64 x, .int .i64 kd, .int .i64 nn, .slice Aa ats.length ca, .slice Ak ks.length ck, .slice Al bl.length cl] 54) = W1 := ⟨_, rfl⟩
      have hb1 : Below wr.heap.size wr W1 := by rw [← hW1]; exact (Below.refl _ _).alloc (Nat.le_refl _) _
      have hE1 : Evo rb mj mj wr W1 := Evo.below hb1
      have hat : At rb mj W1 wr.heap.size (.cells #[.int .i64 x, .int .i64 kd, .int .i64 nn, .slice Aa ats.length ca, .slice Ak ks.length ck, .slice Al bl.length cl] 54 (0, 0)) := by rw [← hW1]; exact at_new (fun k hk => HJ.out.good.mutLt hk) _ _
      have hg1 := HJ.out.good.below hb1
      have HS1 := Lib.hid (step_any hg1)
      have HS := Lib.hid (fun (V : World) (m' : Mem) (hE : Evo rb mj m' W1 V) => (show V.cell? ⟨wr.heap.size, 0, none⟩ = some (.int .i64 x) ∧ V.cell? ⟨wr.heap.size, 1, none⟩ = some (.int .i64 kd) ∧ V.cell? ⟨wr.heap.size, 2, none⟩ = some (.int .i64 nn) ∧ V.cell? ⟨wr.heap.size, 3, none⟩ = some (.slice Aa ats.length ca) ∧ V.cell? ⟨wr.heap.size, 4, none⟩ = some (.slice Ak ks.length ck) ∧ V.cell? ⟨wr.heap.size, 5, none⟩ = some (.slice Al bl.length cl) from
        ⟨at_cell0 (hat.evo hE) rfl, at_cell0 (hat.evo hE) rfl, at_cell0 (hat.evo hE) rfl, at_cell0 (hat.evo hE) rfl, at_cell0 (hat.evo hE) rfl, at_cell0 (hat.evo hE) rfl⟩))
      obtain ⟨k, rfl⟩ : ∃ q, k = q + 1 := ⟨k - 1, by have := HJ.out.lt; omega⟩
      have HEW := Lib.hid (fun (V : World) (m' : Mem) (hE : Evo rb mj m' W1 V) => (show Evo rb m m' W V from (HE0.out.trans HJ.out.evo).trans (hE1.trans hE)))
      have HE1 := Lib.hid hE1
      have HOUT := Lib.hid (HJ.out.out.trans (congrArg (fun t => evF p.funs inp (k + 1) t e' s') htail))
      have hltk := HJ.out.lt
      have hlek := HJ.out.le
      have HENV := Lib.hid (HJ.out.env.evo hE1)
      have HBL := Lib.hid hbl
      have HAT := Lib.hid hats
      have HKS := Lib.hid hks
      have HBO := Lib.hid hbo
      have HB1 := Lib.hid (hg1.stay (Evo.refl rb mj W1))
      have HBW := Lib.hid (HJ.out.good.stay hE1)
      have HBS := Lib.hid hg1.Bs
      have HBN := Lib.hid hg1.bnd
      clear hb1 hE1 hat hg1 htail hbl hats hks hbo
      go_wp2_with fail
      refine HS1.out.mono ?_
      rintro en V2 (⟨hl, rfl, hg2, hE2⟩ | ⟨hl, rfl, hg2, hE2⟩)
      rotate_left
      · refine ⟨rfl, ?_⟩
        rw [HOUT.out, evF_cut _ _ (by omega) _ _ _ _ _ _ _ _ _ hl]
        exact .cut (HEW.out _ _ hE2) hg2 (thrown_one _ _)
      have HLEFT := Lib.hid hl
      obtain ⟨x0, x1, x2, x3, x4, x5⟩ := HS.out V2 mj hE2
      have hBV : Below B wr V2 := (HBW.out).trans ⟨hE2.os, hE2.tape, hE2.output, hE2.size, fun q hq => hE2.same q (Nat.lt_of_lt_of_le hq HBS.out) (fun hm => by have := hg2.mutB hm; omega)⟩
      have hB2 := hg2.Bs
      by_cases hk10 : kd = 10
      · subst hk10
        obtain ⟨q, hgok⟩ := HBO.out.group_
        have HG := Lib.hid (group_any hg2 hgok (Aa := Aa) (ca := ca) (Al := Al) (lb := bl.length) (cb := cl) ((HAT.out.below hBV).mono hB2) ((HKS.out.below hBV).mono hB2) hkc (HENV.out.evo hE2) 10 nn)
        have HG2 := Lib.hid hg2
        have HE2 := Lib.hid hE2
        clear hgok hg2 hE2 hBV hB2 hl
        go_wp2_with fail
        refine HG.out.mono ?_
        rintro en V3 (⟨l, m3, pp, hv, rfl, hE3, hg3, hen⟩ | ⟨hv, rfl, hb3⟩)
        · have HN := Lib.hid (show BodyAt rb B p inp fuel n m W W0 t out (j + 1) (.pointer pp) V3 (groupEnv ks s'.made.length e') { s' with left := s'.left - 1, made := s'.made ++ groupMade ks l } m3 k from
            ⟨hen, hg3, HJ.out.evo.trans ((HE1.out.trans HE2.out).trans hE3), by rw [HOUT.out, evF_group _ _ _ _ _ _ _ _ _ _ HLEFT.out]; simp only [hv], by have := HLEFT.out; show s'.left - 1 < k; omega, by omega⟩)
          clear hen hg3 hE3 hv
          go_wp2_with fail
          go_roundw
          case rel => exact ⟨j + 1, _, _, m3, k, by omega, by go_num, HN⟩
          case measure => simp [intOf]; omega
        · refine ⟨rfl, ?_⟩
          rw [HOUT.out, evF_group _ _ _ _ _ _ _ _ _ _ HLEFT.out]
          simp only [hv]
          exact .stuck (HEW.out _ _ (HE2.out.trans (Evo.below hb3))) (HG2.out.below hb3) (thrown_one _ _)
      · have hkb : (kd == 10) = false := by simpa using hk10
        have HSI := Lib.hid (fun (V : World) (hV : Below V2.heap.size V2 V) => (show Calls Try.prog 53 #[.pointer (some ⟨rb, 0, none⟩), .agg #[.int .i64 kd, .int .i64 nn, .slice Aa ats.length ca, .slice Ak ks.length ck, .slice Al bl.length cl], .pointer pj] V fun en V' =>
            (∃ v s3 m3 T' y, Evo rb mj m3 W1 V' ∧ en = .returned (.iface T' y) ∧ Good rb B p inp fuel s3 m3 V' ∧ RepV rb m3 V' v (.iface T' y) ∧ sideF p inp k kd nn ats ks bl e' { s' with left := s'.left - 1 } = (.val v, s3)) ∨ (∃ ch m3, Evo rb mj m3 W1 V' ∧ en = .panicked ch ∧ EvPost rb B p inp fuel m W out (.panicked ch) V') from by
          have hEV : Evo rb mj mj V2 V := Evo.below hV
          have hBB := hBV.trans (hV.mono hB2)
          have hBV2 := Nat.le_trans hB2 hV.size
          refine (side_any (HOK.out k (by omega)) HWF.out (by show s'.left - 1 < k; omega) (by have := HBN.out; show s'.out.length + (s'.left - 1) < fuel; omega) (hg2.below hV) ((HENV.out.evo hE2).evo hEV) HBO.out hk10 ((HAT.out.below hBB).mono hBV2) ((HKS.out.below hBB).mono hBV2) hkc
            ⟨HBL.out.1, fun q hq => ?_⟩ hblc hwb).mono fun en V' h => ?_
          · obtain ⟨bb, oo, g0, g1, g2, e1, e2, e3, e4, e5, hbd⟩ := HBL.out.2 q hq
            exact ⟨bb, oo, g0, g1, g2, e1, e2, (hBB.cell (p := ⟨_, _, none⟩) e2).trans e3, (hBB.cell (p := ⟨_, _, none⟩) e2).trans e4, (hBB.cell (p := ⟨_, _, none⟩) e2).trans e5, hbd.kept hBB⟩
          · obtain ⟨mE, hmE⟩ := h.evo
            rcases h.inv with ⟨v, s3, m3, T', y, h1, rfl, h3, h4, h5⟩ | ⟨ch, rfl, h2, h3, h4⟩
            · exact .inl ⟨v, s3, m3, T', y, hE2.trans (hEV.trans h3), rfl, h4, h5, h1⟩
            · refine .inr ⟨ch, mE, hE2.trans (hEV.trans hmE), rfl, ?_⟩
              rw [HOUT.out, evF_side _ _ _ _ _ _ _ _ _ _ _ HLEFT.out hk10]
              exact (h4 _).from_ (HEW.out _ _ (hE2.trans hEV))))
        have HE2 := Lib.hid hE2
        clear hg2 hE2 hBV hB2 hl
        go_wp2_with fail
        go_region_held2 (fun V => V.cell? ⟨wr.heap.size, 0, none⟩ = some (.int .i64 x) ∧ V.cell? ⟨wr.heap.size, 1, none⟩ = some (.int .i64 kd) ∧ V.cell? ⟨wr.heap.size, 2, none⟩ = some (.int .i64 nn) ∧ V.cell? ⟨wr.heap.size, 3, none⟩ = some (.slice Aa ats.length ca) ∧ V.cell? ⟨wr.heap.size, 4, none⟩ = some (.slice Ak ks.length ck) ∧ V.cell? ⟨wr.heap.size, 5, none⟩ = some (.slice Al bl.length cl))
          (first | exact HS.out _ _ HE2.out.drew | exact HS.out _ _ hEV | exact HS.out _ _ (hEV.trans (Evo.alloc _ _ _ _)))
          ((go_at_call 53; refine (HSI.out _ (Below.refl _ _).drew).mono ?_; rintro en V' (⟨v, s3, m3, T', y, hEV, rfl, hg3, hrv, hsv⟩ | ⟨ch, m3, hEV, rfl, hP⟩); rotate_left; exact ⟨rfl, hP⟩))
        all_goals
          have hle := sideF_le (p := p) inp k kd nn ats ks bl e' { s' with left := s'.left - 1 }
          rw [hsv] at hle
          have hle2 := hle.left
          have HN := Lib.hid (show BodyAt rb B p inp fuel n m W W0 t out (j + 1) (.pointer (some ⟨V'.heap.size, 0, none⟩)) (V'.alloc (.cells #[.int .i64 x, .iface T' y, .pointer pj] 99)) ((x, v) :: e') s3 m3 k from
            ⟨.cons (at_new (fun k hk => hg3.mutLt hk) _ _) (hrv.evo (Evo.alloc _ _ _ _)) ((HENV.out.evo hEV).evo (Evo.alloc _ _ _ _)), hg3.below ((Below.refl _ _).alloc (Nat.le_refl _) _), (HJ.out.evo.trans (HE1.out.trans hEV)).trans (Evo.alloc _ _ _ _),
              by rw [HOUT.out, evF_side _ _ _ _ _ _ _ _ _ _ _ HLEFT.out hk10, hsv]; rfl, by have := HLEFT.out; simp only at hle2; omega, by omega⟩)
          clear hle hle2 hg3 hrv hsv hEV
          go_wp2_with fail
          go_roundw
          case rel => exact ⟨j + 1, _, _, m3, k, by omega, by go_num, HN⟩
          case measure => simp [intOf]; omega
    · have hjT : j = T := by omega
      subst hjT
      have hjj : ¬ (j : Int) < (j : Int) := by omega
      have HA := Lib.hid ((atom_any (rb := rb) (m := mj) (W := wr) (V := wr) (Below.refl _ _) HJ.out.env t.last).mono (R' := fun en V => ∃ m', EvPost rb B p inp fuel m W out en V) fun en V h => by
        have ho := HJ.out.out
        rw [HT.out j (Nat.le_refl _), evF_ret _ _ (by have := HJ.out.lt; omega)] at ho
        have hE := HE0.out.trans HJ.out.evo
        refine ⟨mj, ?_⟩
        rcases h with ⟨v, T', x', k1, rfl, k3, k4⟩ | ⟨k1, rfl, k4⟩
        · rw [ho, k1]
          exact .val (hE.trans (Evo.below k4)) (HJ.out.good.below k4) (k3.evo (Evo.below k4))
        · rw [ho, k1]
          exact .stuck (hE.trans (Evo.below k4)) (HJ.out.good.below k4) (thrown_one _ _))
      go_wp2_with fail
      refine HA.out.mono ?_
      rintro en V ⟨-, h⟩
      rcases h.ends with ⟨g', rfl, hP⟩ | ⟨ch, rfl, hP⟩
      · go_wp2_with fail
        go_ret
        exact hP
      · exact ⟨rfl, hP⟩
end
end Go.Proofs.Ytnobggabjpcbfaa

/-
  The flat evaluator: bodies to whatever depth; a run's end.
-/
set_option linter.unusedVariables false
set_option linter.unusedSimpArgs false
namespace Go.Proofs.Ytnobggabjpcbfaa
open Go.RowKit

theorem body_ok (rb B : Nat) (p : FlatP) (inp : List Int) (fuel : Nat) (hwf : ∀ g ∈ p.funs, WfA p.funs.length g.body) (n : Nat) : BodyOk rb B p inp fuel n := by
  induction n using Nat.strongRecOn with
  | _ n ih => exact body_step ih hwf

/-! ### the deferred closure -/
theorem whole1_idle (rv rb : Nat) (x : Value) (V : World) (hr : V.cell? ⟨rv, 0, none⟩ = some (.pointer (some ⟨rb, 0, none⟩))) (h2 : V.cell? ⟨rb, 6, none⟩ = some (.int .i64 0)) (f2 : V.frozen? ⟨rb, 6, none⟩ = false) :
    CallsD Try.prog 34 #[.pointer (some ⟨rv, 0, none⟩)] .returning V fun e u' w' => e = .returned (.tuple #[]) ∧ u' = .returning ∧ w' = V.setCell ⟨rb, 6, none⟩ (.int .i64 1) := by
  refine callsD_of_wpS Try.func34 rfl fun c₀ cs hu => ?_
  apply wpS_seq
  apply wpS_region
  simp [wpOpsS, go_sem, recoverD, hu, Try.ntmps34, Exit.thenS]
  refine wpS_of_wp (Code.wp_mono (Q := fun e a w' => e = .normal ∧ a.defers = [] ∧ w' = V.setCell ⟨rb, 6, none⟩ (.int .i64 1)) ?_ ?_)
  · rintro e a w' ⟨rfl, h1, rfl⟩
    cases c₀
    simp_all [bodyPostS, results, Try.results34]
  simp only [Array.replicate_succ, Array.replicate_zero, List.push_toArray, List.setIfInBounds_toArray, List.set_cons_zero, List.set_cons_succ, List.append_toArray, List.nil_append, List.cons_append]
  clear hu
  go_wp2_with fail

theorem whole1_stop (rv rb : Nat) (k : Int) (older : List PanicEntry) (V : World) (hr : V.cell? ⟨rv, 0, none⟩ = some (.pointer (some ⟨rb, 0, none⟩))) (h2 : V.cell? ⟨rb, 6, none⟩ = some (.int .i64 0)) (f2 : V.frozen? ⟨rb, 6, none⟩ = false) :
    CallsD Try.prog 34 #[.pointer (some ⟨rv, 0, none⟩)] (.panicking ({ v := .iface 76 (.agg #[.int .i64 k]), recovered := false } :: older)) V
      fun e u' w' => e = .returned (.tuple #[]) ∧ u' = .panicking ({ v := .iface 76 (.agg #[.int .i64 k]), recovered := true } :: older) ∧ w' = (V.alloc (.cells #[.int .i64 k] 76)).setCell ⟨rb, 6, none⟩ (.int .i64 k) := by
  have hrl := World.block_lt_of_cell? _ _ hr
  have h2l := World.block_lt_of_cell? _ _ h2
  have hn := World.new_ne _ _ hr
  have hn' := World.new_ne _ _ h2
  refine callsD_of_wpS Try.func34 rfl fun c₀ cs hu => ?_
  apply wpS_seq
  apply wpS_region
  simp [wpOpsS, go_sem, recoverD, hu, Try.ntmps34, Exit.thenS]
  refine wpS_of_wp (Code.wp_mono (Q := fun e a w' => e = .normal ∧ a.defers = [] ∧ w' = (V.alloc (.cells #[.int .i64 k] 76)).setCell ⟨rb, 6, none⟩ (.int .i64 k)) ?_ ?_)
  · rintro e a w' ⟨rfl, h1, rfl⟩
    cases c₀
    simp_all [bodyPostS, results, Try.results34]
  simp only [Array.replicate_succ, Array.replicate_zero, List.push_toArray, List.setIfInBounds_toArray, List.set_cons_zero, List.set_cons_succ, List.append_toArray, List.nil_append, List.cons_append]
  clear hu
  go_wp2_with fail

theorem whole1_raised (rv rb : Nat) (k : Int) (T : TypeId) (y : Value) (older : List PanicEntry) (V : World) (hr : V.cell? ⟨rv, 0, none⟩ = some (.pointer (some ⟨rb, 0, none⟩))) (h2 : V.cell? ⟨rb, 6, none⟩ = some (.int .i64 0)) (f2 : V.frozen? ⟨rb, 6, none⟩ = false) (h3 : V.cell? ⟨rb, 7, none⟩ = some (.int .i64 0)) (f3 : V.frozen? ⟨rb, 7, none⟩ = false) (hne : rv ≠ rb)
    (hkey : Calls Try.prog 35 #[.iface T y] ((V.setCell ⟨rb, 6, none⟩ (.int .i64 4)).alloc (.cells #[.iface T y] 80)) fun e w' => e = .returned (.int .i64 k) ∧ (V.setCell ⟨rb, 6, none⟩ (.int .i64 4)).alloc (.cells #[.iface T y] 80) = w') :
    CallsD Try.prog 34 #[.pointer (some ⟨rv, 0, none⟩)] (.panicking ({ v := .iface 80 (.agg #[.iface T y]), recovered := false } :: older)) V
      fun e u' w' => e = .returned (.tuple #[]) ∧ u' = .panicking ({ v := .iface 80 (.agg #[.iface T y]), recovered := true } :: older) ∧
        w' = if 0 ≤ k then (((V.setCell ⟨rb, 6, none⟩ (.int .i64 4)).alloc (.cells #[.iface T y] 80)).setCell ⟨rb, 6, none⟩ (.int .i64 2)).setCell ⟨rb, 7, none⟩ (.int .i64 k) else (V.setCell ⟨rb, 6, none⟩ (.int .i64 4)).alloc (.cells #[.iface T y] 80) := by
  have hrl := World.block_lt_of_cell? _ _ hr
  have h2l := World.block_lt_of_cell? _ _ h2
  have hn := World.new_ne _ _ hr
  have hn' := World.new_ne _ _ h2
  refine callsD_of_wpS Try.func34 rfl fun c₀ cs hu => ?_
  apply wpS_seq
  apply wpS_region
  simp [wpOpsS, go_sem, recoverD, hu, Try.ntmps34, Exit.thenS]
  refine wpS_of_wp (Code.wp_mono (Q := fun e a w' => e = .normal ∧ a.defers = [] ∧ w' = if 0 ≤ k then (((V.setCell ⟨rb, 6, none⟩ (.int .i64 4)).alloc (.cells #[.iface T y] 80)).setCell ⟨rb, 6, none⟩ (.int .i64 2)).setCell ⟨rb, 7, none⟩ (.int .i64 k) else (V.setCell ⟨rb, 6, none⟩ (.int .i64 4)).alloc (.cells #[.iface T y] 80)) ?_ ?_)
  · rintro e a w' ⟨rfl, h1, rfl⟩
    cases c₀
    simp_all [bodyPostS, results, Try.results34]
  simp only [Array.replicate_succ, Array.replicate_zero, List.push_toArray, List.setIfInBounds_toArray, List.set_cons_zero, List.set_cons_succ, List.append_toArray, List.nil_append, List.cons_append]
  have HK := Lib.hid hkey
  clear hu hkey
  by_cases hk : 0 ≤ k
  · rw [if_pos hk]
    go_wp2_with (go_at_call 35; refine HK.out.mono ?_; rintro e w' ⟨rfl, rfl⟩)
  · rw [if_neg hk]
    have hk' : k < 0 := by omega
    go_wp2_with (go_at_call 35; refine HK.out.mono ?_; rintro e w' ⟨rfl, rfl⟩)

/-- nothing turns but the run's record, of what stood -/
structure Rest (rb : Nat) (V V' : World) : Prop where
  os : V'.os = V.os
  tape : V'.tape = V.tape
  output : V'.output = V.output
  size : V.heap.size ≤ V'.heap.size
  same : ∀ k, k < V.heap.size → k ≠ rb → V'.heap[k]? = V.heap[k]?
theorem Rest.refl (rb : Nat) (V : World) : Rest rb V V := ⟨rfl, rfl, rfl, Nat.le_refl _, fun _ _ _ => rfl⟩
theorem Rest.alloc {rb : Nat} {V V' : World} (h : Rest rb V V') (o : Obj) : Rest rb V (V'.alloc o) :=
  have hb : Below V'.heap.size V' (V'.alloc o) := (Below.refl _ _).alloc (Nat.le_refl _) _
  ⟨h.os, h.tape, h.output, Nat.le_trans h.size hb.size, fun k hk hn => (hb.block k (Nat.lt_of_lt_of_le hk h.size)).trans (h.same k hk hn)⟩
theorem Rest.set {rb : Nat} {V V' : World} (h : Rest rb V V') (o : Nat) (v : Value) : Rest rb V (V'.setCell ⟨rb, o, none⟩ v) :=
  ⟨h.os, h.tape, h.output, by simpa [World.setCell] using h.size, fun k hk hn => (heap_set_ne hn _ _).trans (h.same k hk hn)⟩
theorem Rest.evo {rb : Nat} {V V' V2 : World} (h : Rest rb V V') {m m' : Mem} (hk : Evo rb m m' V' V2) (hm : ∀ k, m.mut rb k → k = rb ∨ V.heap.size ≤ k) : Rest rb V V2 :=
  ⟨hk.os.trans h.os, hk.tape.trans h.tape, hk.output.trans h.output, Nat.le_trans h.size hk.size, fun k hlt hn => (hk.same k (Nat.lt_of_lt_of_le hlt h.size) (fun hx => by rcases hm k hx with e | e; exact hn e; omega)).trans (h.same k hlt hn)⟩
def WholePost (rb B : Nat) (V : World) (pe : PEnd) (e : Ending) (V' : World) : Prop :=
  e = .returned (.tuple #[]) ∧ Rest rb V V' ∧ ∃ f0 f1 f2 f3 x0 x1 vo, V'.heap[rb]? = some (.cells #[f0, f1, f2, f3, x0, x1, .int .i64 pe.kind, .int .i64 pe.n, vo, .int .i64 pe.steps] 62 (0, 0)) ∧ V'.ownsRow B 3 1 vo pe.out.length (pe.out.map (Value.int .i64))

def m0 : Mem := ⟨[], [], .slice none 0 0⟩
theorem m0_mut {rb k : Nat} (h : m0.mut rb k) : k = rb := by
  rcases h with h | h | h
  · exact h
  · simp [m0, Value.ownBlock] at h
  · simp [m0] at h

end Go.Proofs.Ytnobggabjpcbfaa

/-
  The flat evaluator: all of a run.
-/
set_option linter.unusedVariables false
set_option linter.unusedSimpArgs false
namespace Go.Proofs.Ytnobggabjpcbfaa
open Go.RowKit

/-- how the body ends -/
def AllPost (rb B : Nat) (p : FlatP) (inp : List Int) (fuel : Nat) (V : World) (o : FOut) (en : Ending) (V' : World) : Prop :=
  (∃ v s' m' g, o = (.val v, s') ∧ en = .returned g ∧ Evo rb m0 m' V V' ∧ Good rb B p inp fuel s' m' V') ∨ (∃ ch, en = .panicked ch ∧ EvPost rb B p inp fuel m0 V o (.panicked ch) V')

set_option maxRecDepth 100000 in
set_option maxHeartbeats 2000000 in
theorem whole_any {rb B : Nat} {p : FlatP} {inp : List Int} {fuel n : Nat} {V : World} (hg : Good rb B p inp fuel (initF fuel) m0 V) (hwf : ∀ g ∈ p.funs, WfA p.funs.length g.body) (hwm : WfA p.funs.length p.main) (hn : fuel < n) :
    Calls Try.prog 22 #[.pointer (some ⟨rb, 0, none⟩)] V (WholePost rb B V (endF fuel (evF p.funs inp n p.main [] (initF fuel)))) := by
  have hb1 : Below V.heap.size V (V.alloc (.cells #[.pointer (some ⟨rb, 0, none⟩)] 60)) := (Below.refl _ _).alloc (Nat.le_refl _) _
  have hg1 := hg.below hb1
  have hrbl := hg.mutLt (k := rb) (.inl rfl)
  have aV := at_new (fun k hk => hg.mutLt hk) #[.pointer (some ⟨rb, 0, none⟩)] 60
  obtain ⟨f0, f1, f2, f3, Ai, ci, hr, hfl, -, -⟩ := hg1.run
  obtain ⟨Af, cf, b2, o2, mm0, mm1, mm2, hv, k1, k2, k3, k4, k5⟩ := hfl
  simp only [Array.mk.injEq, List.cons.injEq, and_true] at hv
  obtain ⟨rfl, rfl, rfl, rfl⟩ := hv
  obtain ⟨A0, d0, bb0, oo0, hvv, -⟩ := k3.at_
  simp only [Array.mk.injEq, List.cons.injEq, and_true] at hvv
  obtain ⟨rfl, rfl, rfl⟩ := hvv
  have r1 : (V.alloc (.cells #[.pointer (some ⟨rb, 0, none⟩)] 60)).cell? ⟨rb, 1, none⟩ = some (.slice A0 p.main.len d0) := by simp [World.cell?, hr]
  have r2 : (V.alloc (.cells #[.pointer (some ⟨rb, 0, none⟩)] 60)).cell? ⟨rb, 2, none⟩ = some (.bool p.main.last.v) := by simp [World.cell?, hr]
  have r3 : (V.alloc (.cells #[.pointer (some ⟨rb, 0, none⟩)] 60)).cell? ⟨rb, 3, none⟩ = some (.int .i64 p.main.last.n) := by simp [World.cell?, hr]
  have r0 : (V.alloc (.cells #[.pointer (some ⟨rb, 0, none⟩)] 60)).cell? ⟨V.heap.size, 0, none⟩ = some (.pointer (some ⟨rb, 0, none⟩)) := by rw [World.cell?_alloc_at _ _ _ _ rfl]; rfl
  have HC := Lib.hid (fun (V2 : World) (hV : Below (V.alloc (.cells #[.pointer (some ⟨rb, 0, none⟩)] 60)).heap.size (V.alloc (.cells #[.pointer (some ⟨rb, 0, none⟩)] 60)) V2) =>
    (body_ok rb B p inp fuel hwf n p.main [] (initF fuel) m0 V2 _ (.pointer none) (k3.kept (hV.mono hg1.Bs)) hwm .nil (hg1.below hV) (show (initF fuel).left < n from hn)).mono (R' := AllPost rb B p inp fuel (V.alloc (.cells #[.pointer (some ⟨rb, 0, none⟩)] 60)) (evF p.funs inp n p.main [] (initF fuel))) fun en V' h => by
      rcases (h.from_ (Evo.below hV)).inv with ⟨v, s', m', T, x, h1, rfl, h3, h4, _⟩ | ⟨ch, rfl, h2, h3, _⟩
      · exact .inl ⟨v, s', m', _, h1, rfl, h3, h4⟩
      · exact .inr ⟨ch, rfl, h3⟩)
  have hR1 : Rest rb V (V.alloc (.cells #[.pointer (some ⟨rb, 0, none⟩)] 60)) := (Rest.refl _ _).alloc _
  have hmm : ∀ k, m0.mut rb k → k = rb ∨ V.heap.size ≤ k := fun k hk => .inl (m0_mut hk)
  generalize evF p.funs inp n p.main [] (initF fuel) = o at *
  clear hg hwf hwm hn hb1 hg1 hr k1 k2 k3 k4 k5
  generalize p.main.len = ml at *
  generalize p.main.last.v = mv at *
  generalize p.main.last.n = mn at *
  go_enter_defers Try.func22, Try.ntmps22
  go_wp2_with fail
  obtain ⟨V1, hV1⟩ : ∃ V1, V.alloc (.cells #[.pointer (some ⟨rb, 0, none⟩)] 60) = V1 := ⟨_, rfl⟩
  rw [hV1] at r0 r1 r2 r3 ⊢
  have e0 : V1.drew.cell? ⟨V.heap.size, 0, none⟩ = some (.pointer (some ⟨rb, 0, none⟩)) := r0
  have e1 : V1.drew.cell? ⟨rb, 1, none⟩ = some (.slice A0 ml d0) := r1
  have e2 : V1.drew.cell? ⟨rb, 2, none⟩ = some (.bool mv) := r2
  have e3 : V1.drew.cell? ⟨rb, 3, none⟩ = some (.int .i64 mn) := r3
  have HCD := Lib.hid (HC.out V1.drew (by rw [hV1]; exact (Below.refl _ _).drew))
  refine wp_region_still_tail 6 (by kernel_rfl) (by kernel_rfl) ?_
  change wpStill _ _ V1.drew _ _ _
  simp only [List.take_succ_cons, List.take_zero, List.drop_succ_cons, List.drop_zero]
  repeat still_step
  try refine wpStill_nil ?_
  go_wp2_with fail
  refine HCD.out.mono ?_
  -- what the closure finds
  have hfind : ∀ (s' : FSt) (m' : Mem) (V2 : World), Evo rb m0 m' (V.alloc (.cells #[.pointer (some ⟨rb, 0, none⟩)] 60)) V2 → Good rb B p inp fuel s' m' V2 →
      V2.cell? ⟨V.heap.size, 0, none⟩ = some (.pointer (some ⟨rb, 0, none⟩)) ∧ (∃ f0 f1 f2 f3 x0 x1, V2.heap[rb]? = some (.cells #[f0, f1, f2, f3, x0, x1, .int .i64 0, .int .i64 0, m'.vo, .int .i64 ((fuel - s'.left : Nat) : Int)] 62 (0, 0))) ∧
      Rest rb V V2 ∧ V2.ownsRow B 3 1 m'.vo s'.out.length (s'.out.map (Value.int .i64)) ∧ m'.vo.ownBlock ≠ some rb := fun s' m' V2 hk hg' => by
    obtain ⟨f0, f1, f2, f3, Ai, ci, hr, _⟩ := hg'.run
    have hl := hg'.left
    refine ⟨at_cell0 (aV.evo hk) rfl, ⟨_, _, _, _, _, _, by rw [hr, show ((fuel - s'.left : Nat) : Int) = (fuel : Int) - s'.left by omega]⟩, hR1.evo hk hmm, hg'.out, hg'.rbo⟩
  -- how a store into the record leaves the row of ints
  have hrow : ∀ (V2 : World) (vo v : Value) (k o : Nat) (xs : List Value), V2.ownsRow B 3 1 vo k xs → vo.ownBlock ≠ some rb → (V2.setCell ⟨rb, o, none⟩ v).ownsRow B 3 1 vo k xs := fun V2 vo v k o xs h hne =>
    h.kept (row := some rb) ⟨rfl, rfl, rfl, by simp [World.setCell], fun i hi h => heap_set_ne (fun e => h (by rw [e])) _ _⟩ (.inr hne)
  have halo : ∀ (V2 : World) (o : Obj), rb < V2.heap.size → (V2.alloc o).heap[rb]? = V2.heap[rb]? := fun V2 o h => ((Below.refl V2.heap.size V2).alloc (Nat.le_refl _) o).block rb h
  intro en V2 h
  rcases h with ⟨v, s', m', g, rfl, rfl, hk, hg'⟩ | ⟨ch, rfl, hp⟩
  · obtain ⟨f1, ⟨y0, y1, y2, y3, x0, x1, f2⟩, f3, f4, f5⟩ := hfind s' m' V2 hk hg'
    have q2 : V2.cell? ⟨rb, 6, none⟩ = some (.int .i64 0) := by simp [World.cell?, f2]
    have z2 : V2.frozen? ⟨rb, 6, none⟩ = false := by simp [World.frozen?, f2]
    have HP := Lib.hid (show WholePost rb B V (endF fuel (.val v, s')) (.returned (.tuple #[])) (V2.setCell ⟨rb, 6, none⟩ (.int .i64 1)) from
      ⟨rfl, f3.set _ _, y0, y1, y2, y3, x0, x1, m'.vo, by rw [heap_set_self f2]; rfl, hrow _ _ _ _ _ _ f4 f5⟩)
    clear hfind hrow halo hk hg' f3 f4 f5
    go_wp2_with fail
    refine leaves_cons (f := 34) (args := #[.pointer (some ⟨V.heap.size, 0, none⟩)]) (by simp) (by simp [go_sem]) ?_
    refine (whole1_idle _ rb (.nilIface) _ f1 q2 z2).mono ?_
    rintro e u' w'' ⟨rfl, rfl, rfl⟩
    simp [Leaves, settle, results, Try.results22, go_sem]
    exact HP.out
  · cases hp with
    | @raised v s' m' _ g _ hk hg' hv hkey hth =>
      obtain ⟨older, rfl, hold⟩ := hth
      obtain ⟨key, hkey⟩ := hkey
      obtain ⟨T, y, rfl⟩ := hv.shape
      obtain ⟨f1, ⟨y0, y1, y2, y3, x0, x1, f2⟩, f3, f4, f5⟩ := hfind s' m' V2 hk hg'
      have q2 : V2.cell? ⟨rb, 6, none⟩ = some (.int .i64 0) := by simp [World.cell?, f2]
      have z2 : V2.frozen? ⟨rb, 6, none⟩ = false := by simp [World.frozen?, f2]
      have q3 : V2.cell? ⟨rb, 7, none⟩ = some (.int .i64 0) := by simp [World.cell?, f2]
      have z3 : V2.frozen? ⟨rb, 7, none⟩ = false := by simp [World.frozen?, f2]
      have hv4 : RepV rb m' ((V2.setCell ⟨rb, 6, none⟩ (.int .i64 4)).alloc (.cells #[.iface T y] 80)) v (.iface T y) := (hv.evo (Evo.setCell V2 6 _ (.inl rfl))).evo (Evo.alloc _ _ _ _)
      have hK := (key_any hv4).mono (R' := fun e w' => e = .returned (.int .i64 key) ∧ (V2.setCell ⟨rb, 6, none⟩ (.int .i64 4)).alloc (.cells #[.iface T y] 80) = w') (by
        rintro e w' (⟨n, hn, rfl, rfl⟩ | ⟨hn, rfl, rfl⟩)
        · rw [hkey] at hn; cases hn; exact ⟨rfl, rfl⟩
        · rw [hkey] at hn; cases hn)
      have hrb2 : rb < V2.heap.size := (Array.getElem?_eq_some_iff.1 f2).1
      have hs1 : ((V2.setCell ⟨rb, 6, none⟩ (.int .i64 4)).alloc (.cells #[.iface T y] 80)).heap[rb]? = some (.cells #[y0, y1, y2, y3, x0, x1, .int .i64 4, .int .i64 0, m'.vo, .int .i64 ((fuel - s'.left : Nat) : Int)] 62 (0, 0)) := by
        rw [halo _ _ (by simpa [World.setCell] using hrb2), heap_set_self f2]; rfl
      have ho1 := (hrow _ _ (.int .i64 4) _ 6 _ f4 f5).alloc (.cells #[.iface T y] 80)
      have hr1 := (f3.set 6 (.int .i64 4)).alloc (.cells #[.iface T y] 80)
      refine leaves_cons (f := 34) (args := #[.pointer (some ⟨V.heap.size, 0, none⟩)]) (by simp) (by simp [go_sem]) ?_
      refine (whole1_raised _ rb key T y older _ f1 q2 z2 q3 z3 (by omega) hK).mono ?_
      rintro e u' w'' ⟨rfl, rfl, rfl⟩
      show Leaves _ _ _ _ [] (settle _) _
      rw [settle_thrown hold]
      by_cases hk0 : 0 ≤ key
      · have he : endF fuel (.raised v, s') = ⟨2, key, s'.out, fuel - s'.left⟩ := by simp [endF, hkey, hk0]
        rw [if_pos hk0, he]
        simp only [Leaves, results, Try.results22]
        refine ⟨.tuple #[], by simp, rfl, (hr1.set _ _).set _ _, y0, y1, y2, y3, x0, x1, m'.vo, ?_, hrow _ _ _ _ _ _ (hrow _ _ _ _ _ _ ho1 f5) f5⟩
        have h2 := heap_set_self hs1 6 (.int .i64 2)
        rw [heap_set_self h2]
        rfl
      · have he : endF fuel (.raised v, s') = ⟨4, 0, s'.out, fuel - s'.left⟩ := by simp [endF, hkey, hk0]
        rw [if_neg hk0, he]
        simp only [Leaves, results, Try.results22]
        exact ⟨.tuple #[], by simp, rfl, hr1, y0, y1, y2, y3, x0, x1, m'.vo, hs1, ho1⟩
    | @stuck s' m' _ _ hk hg' hth =>
      obtain ⟨older, rfl, hold⟩ := hth
      obtain ⟨f1, ⟨y0, y1, y2, y3, x0, x1, f2⟩, f3, f4, f5⟩ := hfind s' m' V2 hk hg'
      have q2 : V2.cell? ⟨rb, 6, none⟩ = some (.int .i64 0) := by simp [World.cell?, f2]
      have z2 : V2.frozen? ⟨rb, 6, none⟩ = false := by simp [World.frozen?, f2]
      refine leaves_cons (f := 34) (args := #[.pointer (some ⟨V.heap.size, 0, none⟩)]) (by simp) (by simp [go_sem]) ?_
      refine (whole1_stop _ rb 4 older _ f1 q2 z2).mono ?_
      rintro e u' w'' ⟨rfl, rfl, rfl⟩
      show Leaves _ _ _ _ [] (settle _) _
      rw [settle_thrown hold]
      simp only [Leaves, results, Try.results22]
      refine ⟨.tuple #[], by simp, rfl, (f3.alloc _).set _ _, y0, y1, y2, y3, x0, x1, m'.vo, ?_, hrow _ _ _ _ _ _ (f4.alloc _) f5⟩
      rw [heap_set_self ((halo V2 _ (Array.getElem?_eq_some_iff.1 f2).1).trans f2)]; rfl
    | @cut s' m' _ _ hk hg' hth =>
      obtain ⟨older, rfl, hold⟩ := hth
      obtain ⟨f1, ⟨y0, y1, y2, y3, x0, x1, f2⟩, f3, f4, f5⟩ := hfind s' m' V2 hk hg'
      have q2 : V2.cell? ⟨rb, 6, none⟩ = some (.int .i64 0) := by simp [World.cell?, f2]
      have z2 : V2.frozen? ⟨rb, 6, none⟩ = false := by simp [World.frozen?, f2]
      refine leaves_cons (f := 34) (args := #[.pointer (some ⟨V.heap.size, 0, none⟩)]) (by simp) (by simp [go_sem]) ?_
      refine (whole1_stop _ rb 3 older _ f1 q2 z2).mono ?_
      rintro e u' w'' ⟨rfl, rfl, rfl⟩
      show Leaves _ _ _ _ [] (settle _) _
      rw [settle_thrown hold]
      simp only [Leaves, results, Try.results22]
      refine ⟨.tuple #[], by simp, rfl, (f3.alloc _).set _ _, y0, y1, y2, y3, x0, x1, m'.vo, ?_, hrow _ _ _ _ _ _ (f4.alloc _) f5⟩
      rw [heap_set_self ((halo V2 _ (Array.getElem?_eq_some_iff.1 f2).1).trans f2)]; rfl

end Go.Proofs.Ytnobggabjpcbfaa

/-
  The flat evaluator: feval.Run, clos.Right being known.
-/
set_option linter.unusedVariables false
set_option linter.unusedSimpArgs false
namespace Go.Proofs.Ytnobggabjpcbfaa
open Go.RowKit

/-- what a run's end is -/
def runE (p : FlatP) (inp : List Int) (f : Int) : PEnd := if rightC p = 0 then endF (fuelOf f) (runF p inp f) else ⟨4, 0, [], 0⟩
/-- a run's end in memory -/
def EndIn (B : Nat) (w : World) (pe : PEnd) (e : Ending) (w' : World) : Prop :=
  ∃ A c, e = .returned (.agg #[.int .i64 pe.kind, .int .i64 pe.n, .slice A pe.out.length c, .int .i64 pe.steps]) ∧ IntsIn w'.heap.size w' A pe.out ∧ pe.out.length ≤ c ∧ (∀ a, A = some a → B ≤ a.block) ∧ Below w.heap.size w w'
/-- the contract of clos.Right at a program -/
def RightSays (p : FlatP) : Prop := ∀ (W : World) (v : Array Value), FlatIn W.heap.size W p v → Calls Try.prog 21 #[.agg v] W fun e w' => e = .returned (.int .i64 (rightC p)) ∧ Below W.heap.size W w'
theorem FlatIn.shape {B : Nat} {w : World} {p : FlatP} {v : Array Value} (h : FlatIn B w p v) : ∃ A0 n0 d0 A1 n1 d1 b1 k1, v = #[.slice A0 n0 d0, .slice A1 n1 d1, .bool b1, .int .i64 k1] := by
  obtain ⟨Af, cf, b, o, m0, m1, m2, h1, h2, h3, h4, h5, h6⟩ := h
  obtain ⟨A1, c1, b1, o1, hv, -⟩ := h4.at_
  simp only [Array.mk.injEq, List.cons.injEq, and_true] at hv
  obtain ⟨rfl, rfl, rfl⟩ := hv
  exact ⟨_, _, _, _, _, _, _, _, h1⟩

set_option maxRecDepth 100000 in
set_option maxHeartbeats 2000000 in
theorem run_wrong {B : Nat} {W : World} {p : FlatP} {v : Array Value} (hin : FlatIn B W p v) (hB : B ≤ W.heap.size) (hrs : RightSays p) (inp f : Value) (hr : rightC p ≠ 0) :
    Calls Try.prog 9 #[.agg v, inp, f] W (EndIn B W ⟨4, 0, [], 0⟩) := by
  obtain ⟨A0, n0, d0, A1, n1, d1, b1, k1, rfl⟩ := hin.shape
  have hb1 : Below W.heap.size W ((W.alloc (.cells #[.slice A0 n0 d0, .slice A1 n1 d1, .bool b1, .int .i64 k1] 29)).alloc (.cells #[.int .i64 0, .int .i64 0, .slice none 0 0, .int .i64 0] 35)) := ((Below.refl _ _).alloc (Nat.le_refl _) _).alloc (by rw [World.size_alloc]; exact Nat.le_succ _) _
  have HR := Lib.hid (hrs _ _ ((hin.kept (hb1.mono hB)).mono (Nat.le_trans hB hb1.size)))
  have hrr : (rightC p == 0) = false := by simpa using hr
  have HB := Lib.hid hb1
  generalize rightC p = r at *
  clear hin hb1 hrs
  go_enter Try.func9, Try.ntmps9
  go_wp2_with fail
  refine HR.out.mono ?_
  rintro e w' ⟨rfl, hb2⟩
  have h31 : w'.heap[W.heap.size + 1]? = some (.cells #[.int .i64 0, .int .i64 0, .slice none 0 0, .int .i64 0] 35 (0, 0)) := (hb2.block (W.heap.size + 1) (by simp)).trans (two_new2 W _ _)
  have c0 : w'.cell? ⟨W.heap.size + 1, 0, none⟩ = some (.int .i64 0) := by simp [World.cell?, h31]
  have c1 : w'.cell? ⟨W.heap.size + 1, 1, none⟩ = some (.int .i64 0) := by simp [World.cell?, h31]
  have c2 : w'.cell? ⟨W.heap.size + 1, 2, none⟩ = some (.slice none 0 0) := by simp [World.cell?, h31]
  have c3 : w'.cell? ⟨W.heap.size + 1, 3, none⟩ = some (.int .i64 0) := by simp [World.cell?, h31]
  have fz : ∀ i, w'.frozen? ⟨W.heap.size + 1, i, none⟩ = false := fun i => by simp [World.frozen?, h31]
  have hb3 : Below W.heap.size W w' := HB.out.trans (hb2.mono HB.out.size)
  have HB3 := Lib.hid hb3
  clear hb2 hb3 h31
  go_wp2_with fail
  refine bodyPost_ret (v := .agg #[.int .i64 4, .int .i64 0, .slice none 0 0, .int .i64 0]) (by simp [results, Try.results9, go_sem, c0, c1, c2, c3]) rfl ?_
  refine ⟨none, 0, rfl, ⟨by simp, .inl rfl⟩, by simp, (by intro a h; cases h), ?_⟩
  exact (((HB3.out.setCell (p := ⟨_, _, none⟩) (Nat.le_succ _) _).setCell (p := ⟨_, _, none⟩) (Nat.le_succ _) _).setCell (p := ⟨_, _, none⟩) (Nat.le_succ _) _).setCell (p := ⟨_, _, none⟩) (Nat.le_succ _) _

theorem fuelOf_int (f : Int) : ((fuelOf f : Nat) : Int) = min (max f 0) 1000000 := by unfold fuelOf; omega
theorem fuelOf_le (f : Int) : fuelOf f ≤ 1000000 := by unfold fuelOf; omega
theorem own_ints {w : World} {base n : Nat} {e : TypeId} {v : Value} {xs : List Int} (h : w.ownsRow base e 1 v n (xs.map (Value.int .i64))) (hb : xs.length * 8 ≤ 140737488351232) :
    ∃ A c, v = .slice A xs.length c ∧ IntsIn w.heap.size w A xs ∧ xs.length ≤ c := by
  have hl : xs.length = n := by have := h.1; simpa using this
  rcases h.2 with ⟨rfl, h0⟩ | ⟨g, cap, cur, rfl, _, hg, hn, _⟩
  · refine ⟨none, 0, by rw [hl, h0], ⟨hb, .inl (List.length_eq_zero_iff.1 (by omega))⟩, by omega⟩
  · refine ⟨some ⟨g, 0, none⟩, cap, by rw [hl], ⟨hb, .inr ⟨g, 0, rfl, (h.lt g rfl).2, fun j hj => ?_⟩⟩, by omega⟩
    have := World.ownsRow.cells h (g := g) rfl j (.int .i64 (nth xs j)) (by simp [nth_eq _ hj, hj])
    have ha : (⟨g, 0, none⟩ : Addr).add j = ⟨g, 0 + j, none⟩ := by unfold Addr.add; split <;> simp_all
    rw [ha] at this
    exact this
theorem ownsRow_same {w w' : World} {base : Nat} {e : TypeId} {size : Nat} {v : Value} {n : Nat} {xs : List Value} (h : w.ownsRow base e size v n xs) (hk : ∀ k, v.ownBlock = some k → w'.heap[k]? = w.heap[k]?) : w'.ownsRow base e size v n xs := by
  refine ⟨h.1, ?_⟩
  rcases h.2 with h0 | ⟨g, cap, cur, rfl, h1, h2, h3⟩
  · exact .inl h0
  · exact .inr ⟨g, cap, cur, rfl, h1, (hk g rfl).trans h2, h3⟩

/-- a run's record as it is made -/
theorem good_start {B : Nat} {w V : World} {p : FlatP} {inp : List Int} {F : Nat} (hF : F ≤ 1000000) {v0 v1 v2 v3 : Value} (hfl : FlatIn B w p #[v0, v1, v2, v3]) {Ai : Option Addr} {ci : Nat} (hi : IntsIn B w Ai inp) (hci : inp.length ≤ ci) (hB : B ≤ w.heap.size)
    (hV : Below w.heap.size w V) (hr : V.heap[w.heap.size]? = some (.cells #[v0, v1, v2, v3, .slice Ai inp.length ci, .int .i64 F, .int .i64 0, .int .i64 0, .slice none 0 0, .int .i64 0] 62 (0, 0))) :
    Good w.heap.size B p inp F (initF F) m0 V :=
  ⟨Nat.le_trans hB hV.size, hB, Nat.le_refl _, hF, by simp [initF], ⟨v0, v1, v2, v3, Ai, ci, by simpa [initF, m0] using hr, hfl.kept (hV.mono hB), by simpa [initF] using hi.below (hV.mono hB), by simpa [initF] using hci⟩,
    ⟨by simp [initF], .inl ⟨rfl, rfl⟩⟩, rfl, by intro i h; simp [initF] at h, rfl, by intro i h; simp [initF] at h, by simp [m0], by simp [m0], by simp [m0, Value.ownBlock], by intro b h; simp [m0] at h, by intro b h; simp [m0] at h⟩

set_option maxRecDepth 100000 in
set_option maxHeartbeats 4000000 in
theorem run_right {B : Nat} {W : World} {p : FlatP} {v : Array Value} (hin : FlatIn B W p v) (hB : B ≤ W.heap.size) (hrs : RightSays p) {inp : List Int} {Ai : Option Addr} {ci : Nat} (hi : IntsIn B W Ai inp) (hci : inp.length ≤ ci) (f : Int) (hr : rightC p = 0) :
    Calls Try.prog 9 #[.agg v, .slice Ai inp.length ci, .int .i64 f] W (EndIn B W (endF (fuelOf f) (runF p inp f))) := by
  obtain ⟨A0, n0, d0, A1, n1, d1, b1, k1, rfl⟩ := hin.shape
  have hb1 : Below W.heap.size W ((W.alloc (.cells #[.slice A0 n0 d0, .slice A1 n1 d1, .bool b1, .int .i64 k1] 29)).alloc (.cells #[.int .i64 0, .int .i64 0, .slice none 0 0, .int .i64 0] 35)) := ((Below.refl _ _).alloc (Nat.le_refl _) _).alloc (by rw [World.size_alloc]; exact Nat.le_succ _) _
  have HR := Lib.hid (hrs _ _ ((hin.kept (hb1.mono hB)).mono (Nat.le_trans hB hb1.size)))
  have HWF := Lib.hid (wf_of_rightC hr)
  have HB := Lib.hid hb1
  have HI := Lib.hid hi
  have HIN := Lib.hid hin
  have hlen64 := hi.1
  obtain ⟨L, hL⟩ : ∃ L, inp.length = L := ⟨_, rfl⟩
  have HLL := Lib.hid hL
  rw [hL] at hci hlen64 ⊢
  rw [hr] at HR
  clear hin hb1 hi hL hrs
  go_enter Try.func9, Try.ntmps9
  go_wp2_with fail
  refine HR.out.mono ?_
  rintro e w' ⟨rfl, hb2⟩
  have h30 : w'.heap[W.heap.size]? = some (.cells #[.slice A0 n0 d0, .slice A1 n1 d1, .bool b1, .int .i64 k1] 29 (0, 0)) := (hb2.block W.heap.size (by simp; omega)).trans (two_new1 W _ _)
  have h31 : w'.heap[W.heap.size + 1]? = some (.cells #[.int .i64 0, .int .i64 0, .slice none 0 0, .int .i64 0] 35 (0, 0)) := (hb2.block (W.heap.size + 1) (by simp)).trans (two_new2 W _ _)
  have q0 : w'.cell? ⟨W.heap.size, 0, none⟩ = some (.slice A0 n0 d0) := by simp [World.cell?, h30]
  have q1 : w'.cell? ⟨W.heap.size, 1, none⟩ = some (.slice A1 n1 d1) := by simp [World.cell?, h30]
  have q2 : w'.cell? ⟨W.heap.size, 2, none⟩ = some (.bool b1) := by simp [World.cell?, h30]
  have q3 : w'.cell? ⟨W.heap.size, 3, none⟩ = some (.int .i64 k1) := by simp [World.cell?, h30]
  have hb3 : Below W.heap.size W w' := HB.out.trans (hb2.mono HB.out.size)
  have hsz : W.heap.size + 2 ≤ w'.heap.size := by have := hb2.size; simp at this; omega
  have HB3 := Lib.hid hb3
  have HC := Lib.hid (fun (X : Nat) (FI : Int) (V : World) (hX : X = (inp.take 4096).length) (hFI : FI = ((fuelOf f : Nat) : Int)) (hV : Below w'.heap.size w' V) (hrec : V.heap[w'.heap.size]? = some (.cells #[.slice A0 n0 d0, .slice A1 n1 d1, .bool b1, .int .i64 k1, .slice Ai X ci, .int .i64 FI, .int .i64 0, .int .i64 0, .slice none 0 0, .int .i64 0] 62 (0, 0))) =>
    (show Calls Try.prog 22 #[.pointer (some ⟨w'.heap.size, 0, none⟩)] V (WholePost w'.heap.size B V (endF (fuelOf f) (runF p inp f))) from by
      subst hX hFI
      have hbB := hb3.mono hB
      have hgood := good_start (fuelOf_le f) (HIN.out.kept hbB) ((HI.out.take 4096).below hbB) (by have := HLL.out; simp; omega) (Nat.le_trans hB hb3.size) hV hrec
      exact whole_any hgood HWF.out.1 HWF.out.2 (Nat.lt_succ_self _)))
  have HE := Lib.hid (fun (V V' : World) (hV : Below w'.heap.size w' V) (hVs : w'.heap.size + 1 ≤ V.heap.size) (hP : WholePost w'.heap.size B V (endF (fuelOf f) (runF p inp f)) (.returned (.tuple #[])) V') =>
    (show ∃ A k c, (V'.cell? ⟨w'.heap.size, 6, none⟩ = some (.int .i64 (endF (fuelOf f) (runF p inp f)).kind) ∧ V'.cell? ⟨w'.heap.size, 7, none⟩ = some (.int .i64 (endF (fuelOf f) (runF p inp f)).n) ∧
        V'.cell? ⟨w'.heap.size, 8, none⟩ = some (.slice A k c) ∧ V'.cell? ⟨w'.heap.size, 9, none⟩ = some (.int .i64 (endF (fuelOf f) (runF p inp f)).steps) ∧
        V'.cell? ⟨W.heap.size + 1, 0, none⟩ = some (.int .i64 0) ∧ V'.cell? ⟨W.heap.size + 1, 1, none⟩ = some (.int .i64 0) ∧ V'.cell? ⟨W.heap.size + 1, 2, none⟩ = some (.slice none 0 0) ∧ V'.cell? ⟨W.heap.size + 1, 3, none⟩ = some (.int .i64 0)) ∧
        (∀ i, V'.frozen? ⟨W.heap.size + 1, i, none⟩ = false) ∧
        ∀ V2, V'.heap.size ≤ V2.heap.size → V2.os = V'.os → V2.tape = V'.tape → V2.output = V'.output → (∀ k, k ≠ W.heap.size + 1 → V2.heap[k]? = V'.heap[k]?) →
          EndIn B W (endF (fuelOf f) (runF p inp f)) (.returned (.agg #[.int .i64 (endF (fuelOf f) (runF p inp f)).kind, .int .i64 (endF (fuelOf f) (runF p inp f)).n, .slice A k c, .int .i64 (endF (fuelOf f) (runF p inp f)).steps])) V2 from by
      obtain ⟨_, hrest, y0, y1, y2, y3, x0, x1, vo, hrec, hout⟩ := hP
      have h6 : V'.heap[W.heap.size + 1]? = some (.cells #[.int .i64 0, .int .i64 0, .slice none 0 0, .int .i64 0] 35 (0, 0)) := (hrest.same _ (by omega) (by omega)).trans ((hV.block _ (by omega)).trans h31)
      have hoL : (endF (fuelOf f) (runF p inp f)).out.length ≤ 1000000 := by
        rw [endF_out]
        have h1 := (evF_le p.funs (inp.take 4096) (fuelOf f + 1) p.main [] (initF (fuelOf f))).out
        have h2 := fuelOf_le f
        unfold runF
        simp [initF] at h1 ⊢
        omega
      have hvo : ∃ A k c, vo = .slice A k c := ownsRow_shape hout
      obtain ⟨A, k, c, rfl⟩ := hvo
      refine ⟨A, k, c, ⟨by simp [World.cell?, hrec], by simp [World.cell?, hrec], by simp [World.cell?, hrec], by simp [World.cell?, hrec], by simp [World.cell?, h6], by simp [World.cell?, h6], by simp [World.cell?, h6], by simp [World.cell?, h6]⟩, fun i => by simp [World.frozen?, h6], fun V2 e1 e2 e3 e4 e5 => ?_⟩
      have hout2 := ownsRow_same hout (w' := V2) (fun q hq => e5 q (by
        rintro rfl
        rcases hout.2 with ⟨h0, _⟩ | ⟨g, cap, cur, h0, _, hgg, _⟩
        · rw [h0] at hq; simp [Value.ownBlock] at hq
        · rw [h0] at hq; simp [Value.ownBlock] at hq
          subst hq
          have := hgg.symm.trans h6
          simp only [Option.some.injEq, Obj.cells.injEq] at this
          exact absurd this.2.1 (by decide)))
      obtain ⟨A', c', hA, hints, hc⟩ := own_ints hout2 (by omega)
      cases hA
      have hlo : ∀ a, A = some a → B ≤ a.block := fun a ha => by
        subst ha
        exact (hout2.lt a.block rfl).1
      refine ⟨A, c, rfl, hints, hc, hlo, ?_⟩
      have hbV : Below W.heap.size W V' := hb3.trans ⟨(hrest.os.trans hV.os), (hrest.tape.trans hV.tape), (hrest.output.trans hV.output), Nat.le_trans (Nat.le_trans (by omega) hV.size) hrest.size, fun q hq => (hrest.same q (by omega) (by omega)).trans (hV.block q (by omega))⟩
      exact ⟨e2.trans hbV.os, e3.trans hbV.tape, e4.trans hbV.output, Nat.le_trans hbV.size e1, fun q hq => (e5 q (by omega)).trans (hbV.block q hq)⟩))
  have hfi := fuelOf_int f
  have HFI := Lib.hid hfi
  have hls : W.heap.size < w'.heap.size := by omega
  clear hb2 hb3 h30 h31 hfi
  generalize endF (fuelOf f) (runF p inp f) = pe at *
  have hL0 : (0 : Int) ≤ min (L : Int) 4096 := by omega
  have hL1 : min (L : Int) 4096 ≤ (ci : Int) := by omega
  go_wp2_with fail
  go_region
  all_goals
    obtain ⟨FI, hFI⟩ : ∃ FI : Int, (if 1000000 < (if f < 0 then 0 else f) then 1000000 else (if f < 0 then 0 else f)) = FI := ⟨_, rfl⟩
    have HF2 := Lib.hid (show FI = ((fuelOf f : Nat) : Int) from by have := HFI.out; rw [← hFI]; split <;> split at * <;> omega)
    obtain ⟨X, hX⟩ : ∃ X : Nat, (if 4096 < (L : Int) then 4096 else (L : Int)).toNat = X := ⟨_, rfl⟩
    have HX2 := Lib.hid (show X = (inp.take 4096).length from by have := HLL.out; rw [← hX]; simp; split <;> omega)
    rw [hFI, hX]
    clear hFI hX
    obtain ⟨V, hV⟩ : ∃ V, (w'.alloc (.cells #[.slice A0 n0 d0, .slice A1 n1 d1, .bool b1, .int .i64 k1, .slice Ai X ci, .int .i64 FI, .int .i64 0, .int .i64 0, .slice none 0 0, .int .i64 0] 62)).drew = V := ⟨_, rfl⟩
    have hbV : Below w'.heap.size w' V := by rw [← hV]; exact ((Below.refl _ _).alloc (Nat.le_refl _) _).drew
    have hVr : V.heap[w'.heap.size]? = some (.cells #[.slice A0 n0 d0, .slice A1 n1 d1, .bool b1, .int .i64 k1, .slice Ai X ci, .int .i64 FI, .int .i64 0, .int .i64 0, .slice none 0 0, .int .i64 0] 62 (0, 0)) := by rw [← hV]; exact World.alloc_heap_new w' _
    have HCC := Lib.hid (HC.out X FI V HX2.out HF2.out hbV hVr)
    have HEE := Lib.hid (fun V' => HE.out V V' hbV ((Array.getElem?_eq_some_iff.1 hVr).1))
    rw [hV]
    clear hV hbV hVr HC HE q0 q1 q2 q3
    go_wp2_with fail
    all_goals
      refine HCC.out.mono ?_
      intro e V' hP
      obtain ⟨rfl, _⟩ := id hP
      obtain ⟨A, k, c, ⟨r2, r3, r4, r5, r60, r61, r62, r63⟩, rfz, hfin⟩ := HEE.out _ hP
      have HFIN := Lib.hid hfin
      clear hP hfin
      go_wp2_with fail
      refine bodyPost_ret (v := .agg #[.int .i64 pe.kind, .int .i64 pe.n, .slice A k c, .int .i64 pe.steps]) (by simp [results, Try.results9, go_sem, r60, r61, r62, r63]) rfl ?_
      refine HFIN.out _ (by simp [World.setCell]) rfl rfl rfl (fun q hq => ?_)
      rw [heap_set_ne hq, heap_set_ne hq, heap_set_ne hq, heap_set_ne hq]

theorem frun_any {B : Nat} {W : World} {p : FlatP} {v : Array Value} (hin : FlatIn B W p v) (hB : B ≤ W.heap.size) (hrs : RightSays p) {inp : List Int} {Ai : Option Addr} {ci : Nat} (hi : IntsIn B W Ai inp) (hci : inp.length ≤ ci) (f : Int) :
    Calls Try.prog 9 #[.agg v, .slice Ai inp.length ci, .int .i64 f] W (EndIn B W (runE p inp f)) := by
  unfold runE
  split
  · exact run_right hin hB hrs hi hci f (by assumption)
  · exact run_wrong hin hB hrs _ _ (by assumption)
end Go.Proofs.Ytnobggabjpcbfaa
