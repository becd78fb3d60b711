/-
 3 texts of this seat in one: H16 H17 H18.
-/
import Derived.Test.YtnobggabjpcbfaaGreatQI18
import Derived.StillTailTactics
set_option maxRecDepth 100000
set_option maxHeartbeats 16000000
set_option linter.unusedVariables false
set_option linter.unusedSimpArgs false
namespace Go.Proofs.YtnobggabjpcbfaaGreat
open Go.RowKit
theorem whichAt_found {ks : List Int} {key : Int} {j : Nat} (hj : j < ks.length) (h : nth ks j = key) (hn : ∀ i, i < j → nth ks i ≠ key) : whichAt ks key = j + 1 := by
 have : ks.findIdx? (· == key) = some j := by
  rw [List.findIdx?_eq_some_iff_getElem]
  refine ⟨hj, by rw [nth_eq ks hj] at h; simp [h], fun i hi => ?_⟩
  have := hn i hi
  rw [nth_eq ks (by omega)] at this
  simpa using this
 simp [whichAt, this]
theorem whichAt_none {ks : List Int} {key : Int} (hn : ∀ i, i < ks.length → nth ks i ≠ key) : whichAt ks key = 0 := by
 have : ks.findIdx? (· == key) = none := by
  rw [List.findIdx?_eq_none_iff]
  intro x hx
  obtain ⟨i, hi, rfl⟩ := List.getElem_of_mem hx
  have := hn i hi
  rw [nth_eq ks hi] at this
  simpa using this
 simp [whichAt, this]
def BlocksIn (B : Nat) (W : World) (Al : Option Addr) (bl : List Anf) : Prop :=
 bl.length * 40 ≤ 140737488351232 ∧ ∀ j (h : j < bl.length), ∃ bb oo g0 g1 g2, Al = some ⟨bb, oo, none⟩ ∧ bb < B ∧ W.cell? ⟨bb, oo + j * 3, none⟩ = some g0 ∧ W.cell? ⟨bb, oo + j * 3 + 1, none⟩ = some g1 ∧ W.cell? ⟨bb, oo + j * 3 + 2, none⟩ = some g2 ∧ BodyIn B W bl[j] #[g0, g1, g2]
section
variable {rb B : Nat} {p : FlatP} {inp : List Int} {fuel n : Nat} {s : FSt} {m : Mem} {W : World}
theorem side_switch (hok : BodyOk rb B p inp fuel n) (hn : s.left < n) (hg : Good rb B p inp fuel s m W) {ats : List Atm} {ks : List Int} {bl : List Anf} {Aa Ak Al : Option Addr} {ca ck cb : Nat} {e : PEnv} {ge : Value} (he : EnvIn rb m W e ge) (ha : AtomsIn W.heap.size W Aa ats) (nn : Int) (h1 : ats.length = 1) (h2 : bl.length = ks.length + 1) (hk : IntsIn W.heap.size W Ak ks) (hkc : ks.length ≤ ck) (hbl : BlocksIn B W Al bl) (hblc : bl.length ≤ cb) (hwb : ∀ c ∈ bl, WfA p.funs.length c):
 Calls Tryz.prog 63 #[.pointer (some ⟨rb, 0, none⟩), .agg #[.int .i64 8, .int .i64 nn, .slice Aa ats.length ca, .slice Ak ks.length ck, .slice Al bl.length cb], ge] W (EvPost rb B p inp fuel m W (sideF p inp n 8 nn ats ks bl e s)) := by
 obtain ⟨pk, rfl⟩ := he.shape
 obtain ⟨W0, hW0⟩ : ∃ W0, W.alloc (.cells #[.int .i64 8, .int .i64 nn, .slice Aa ats.length ca, .slice Ak ks.length ck, .slice Al bl.length cb] 60) = W0 := ⟨_, rfl⟩
 have hb0 : Below W.heap.size W W0 := by rw [← hW0]; exact (Below.refl _ _).alloc (Nat.le_refl _) _
 have hs0 : W.heap.size < W0.heap.size := by rw [← hW0]; simp
 have c0 : W0.cell? ⟨W.heap.size, 0, none⟩ = some (.int .i64 8) := by rw [← hW0, World.cell?_alloc_at _ _ _ _ rfl]; rfl
 have c1 : W0.cell? ⟨W.heap.size, 1, none⟩ = some (.int .i64 nn) := by rw [← hW0, World.cell?_alloc_at _ _ _ _ rfl]; rfl
 have c2 : W0.cell? ⟨W.heap.size, 2, none⟩ = some (.slice Aa ats.length ca) := by rw [← hW0, World.cell?_alloc_at _ _ _ _ rfl]; rfl
 have c3 : W0.cell? ⟨W.heap.size, 3, none⟩ = some (.slice Ak ks.length ck) := by rw [← hW0, World.cell?_alloc_at _ _ _ _ rfl]; rfl
 have c4 : W0.cell? ⟨W.heap.size, 4, none⟩ = some (.slice Al bl.length cb) := by rw [← hW0, World.cell?_alloc_at _ _ _ _ rfl]; rfl
 have HR := Lib.hid (fun (V : World) (hV : Below W0.heap.size W0 V) => (show V.cell? ⟨W.heap.size, 0, none⟩ = some (.int .i64 8) ∧ V.cell? ⟨W.heap.size, 1, none⟩ = some (.int .i64 nn) ∧ V.cell? ⟨W.heap.size, 3, none⟩ = some (.slice Ak ks.length ck) ∧ V.cell? ⟨W.heap.size, 4, none⟩ = some (.slice Al bl.length cb) from
  ⟨(hV.cell (p := ⟨W.heap.size, 0, none⟩) hs0).trans c0, (hV.cell (p := ⟨W.heap.size, 1, none⟩) hs0).trans c1, (hV.cell (p := ⟨W.heap.size, 3, none⟩) hs0).trans c3, (hV.cell (p := ⟨W.heap.size, 4, none⟩) hs0).trans c4⟩))
 have hE0 : Evo rb m m W W0 := Evo.below hb0
 have HA := Lib.hid (show Calls Tryz.prog 82 #[.pointer pk, .slice Aa ats.length ca] W0 (AtomsPost rb m W0 (atomsP e ats)) from
  atoms_any (fun k hk => Nat.lt_of_lt_of_le (hg.mutLt hk) (Nat.le_of_lt hs0)) (he.evo hE0) ((ha.below hb0).mono (Nat.le_of_lt hs0)))
 have HST := Lib.hid (fun (V : World) (hV : Below W0.heap.size W0 V) (ho : atomsP e ats = none) => (show EvPost rb B p inp fuel m W (sideF p inp n 8 nn ats ks bl e s) (.panicked (stopV 4)) V from by
  rw [sideF_none ho]
  have hb : Below W.heap.size W V := hb0.trans (hV.mono (Nat.le_of_lt hs0))
  exact .stuck (Evo.below hb) (hg.below hb) (thrown_one _ _)))
 have HW := Lib.hid (fun (V : World) (hV : Below W0.heap.size W0 V) => (show Below W.heap.size W V from hb0.trans (hV.mono (Nat.le_of_lt hs0))))
 have HL := Lib.hid (fun (l : List PV) (ho : atomsP e ats = some l) => atomsP_len ats l ho)
 have hEN := he
 have HE := Lib.hid (fun (V : World) (l : List PV) (A : Option Addr) (hV : Below W.heap.size W V) (ho : sideF p inp n 8 nn ats ks bl e s = rhsF p.funs inp (evF p.funs inp n) 8 nn l ks bl e s) (hr : RowZ rb m V l A) (hl : l.length = 1) => (show ∃ a g T x, A = some ⟨g, 0, none⟩ ∧ V.cell? ⟨g, 0, none⟩ = some (.iface T x) ∧ Calls Tryz.prog 39 #[.iface T x] V (AskedPost (keyOf a) V) ∧ (keyOf a = none → EvPost rb B p inp fuel m W (sideF p inp n 8 nn ats ks bl e s) (.panicked (stopV 4)) V) ∧
  ∀ key, keyOf a = some key → ∀ j, j < bl.length → whichAt ks key = j → ∃ bb oo A0 n0 d0 v0 v1, Al = some ⟨bb, oo, none⟩ ∧ V.cell? ⟨bb, oo + j * 3, none⟩ = some (.slice A0 n0 d0) ∧ V.cell? ⟨bb, oo + j * 3 + 1, none⟩ = some (.bool v0) ∧ V.cell? ⟨bb, oo + j * 3 + 2, none⟩ = some (.int .i64 v1) ∧
   Calls Tryz.prog 40 #[.pointer (some ⟨rb, 0, none⟩), .agg #[.slice A0 n0 d0, .bool v0, .int .i64 v1], .pointer pk] V (EvPost rb B p inp fuel m W (sideF p inp n 8 nn ats ks bl e s)) from by
  obtain ⟨a, g, T, x, rfl, q2, q3, q4, q5, q6⟩ := hr.one hl
  have hgV := hg.below hV
  have hE := Evo.below (rb := rb) (m := m) hV
  refine ⟨a, g, T, x, q2, q5, key_any q6, fun hk0 => ?_, fun key hk0 j hj hwa => ?_⟩
  · rw [ho, show rhsF p.funs inp (evF p.funs inp n) 8 nn [a] ks bl e s = (.stuck, s) by simp [rhsF, hk0]]
    exact .stuck hE hgV (thrown_one _ _)
  · obtain ⟨bb, oo, g0, g1, g2, e1, e2, e3, e4, e5, hbd⟩ := hbl.2 j hj
    have hbB := hV.mono hg.Bs
    have hbd2 := hbd.kept hbB
    obtain ⟨A0, d0, b0, o0, hvv, -⟩ := hbd.at_
    simp only [Array.mk.injEq, List.cons.injEq, and_true] at hvv
    obtain ⟨rfl, rfl, rfl⟩ := hvv
    refine ⟨bb, oo, A0, _, d0, _, _, e1, (hbB.cell (p := ⟨_, _, none⟩) e2).trans e3, (hbB.cell (p := ⟨_, _, none⟩) e2).trans e4, (hbB.cell (p := ⟨_, _, none⟩) e2).trans e5, ?_⟩
    rw [ho, show rhsF p.funs inp (evF p.funs inp n) 8 nn [a] ks bl e s = evF p.funs inp n bl[j] e s by simp [rhsF, hk0, hwa, hj]]
    exact (hok _ _ _ m V _ _ hbd2 (hwb _ (List.getElem_mem hj)) (hEN.evo hE) hgV hn).mono fun en V' h => h.from_ hE))
 have h1' := Lib.hid h1
 have H2 := Lib.hid h2
 have HK := Lib.hid (fun (V : World) (hV : Below W.heap.size W V) (j : Nat) (hj : j < ks.length) => (show ∃ bk ok, Ak = some ⟨bk, ok, none⟩ ∧ V.cell? ⟨bk, ok + j, none⟩ = some (.int .i64 (nth ks j)) from by
  obtain ⟨bk, ok, h1, h2, h3⟩ := hk.at_ (by omega)
  exact ⟨bk, ok, h1, (hV.cell (p := ⟨_, _, none⟩) h2).trans (h3 j hj)⟩))
 have hk64 := hk.1
 have hb64 := hbl.1
 obtain ⟨out, hout⟩ : ∃ o, sideF p inp n 8 nn ats ks bl e s = o := ⟨_, rfl⟩
 rw [hout] at HE
 rw [hout] at HST ⊢
 have HO := Lib.hid hout
 clear hout hE0 hs0 hb0 c0 c1 c3 c4 ha hg he h1 hok hEN hk hbl hwb hn h2
 go_enter Tryz.func63, Tryz.ntmps63
 go_wp2_with fail
 refine HA.out.mono ?_
 rintro en w' (⟨l, A, cap, hv, rfl, hlc, hrow, hw⟩ | ⟨hv, rfl, hw⟩)
 rotate_left
 · exact ⟨rfl, HST.out _ hw hv⟩
 have hll := HL.out l hv
 have ho := HO.out.symm.trans (sideF_some hv)
 obtain ⟨d0, d1, d3, d4⟩ := HR.out w' hw
 have HWW := Lib.hid (HW.out w' hw)
 clear HA HST HR HL HW HO hv hw hW0 c2
 obtain ⟨a, g, T, x, rfl, q0, hkey, hnone, hsome⟩ := HE.out w' l A HWW.out ho hrow (by rw [hll, h1'.out])
 have hl1 : l.length = 1 := by rw [hll, h1'.out]
 rw [hl1] at hlc ⊢
 have HKEY := Lib.hid hkey
 have HNO := Lib.hid hnone
 have HSO := Lib.hid hsome
 have HKK := Lib.hid (HK.out w' HWW.out)
 clear hrow ho hll hl1 HE HWW hkey hnone hsome HK
 obtain ⟨KL, hKL⟩ : ∃ L, ks.length = L := ⟨_, rfl⟩
 have HKL := Lib.hid hKL
 have h2 := H2.out
 rw [h2] at d4 hblc hb64
 rw [hKL] at d3 d4 hkc hk64 hblc hb64
 clear h2 hKL
 go_wp2_with (go_at_call 39; refine HKEY.out.mono ?_; rintro en V' (⟨key, hkk, rfl, rfl⟩ | ⟨hkk, rfl, rfl⟩); rotate_left; exact ⟨rfl, HNO.out hkk⟩)
 have HSK := Lib.hid (HSO.out key hkk)
 clear HSO HNO HKEY hkk
 go_loopw [65] (fun iv wr => ∃ j : Nat, j ≤ KL ∧ iv = .int .i64 (j : Int) ∧ wr = w' ∧ Hid (∀ i, i < j → nth ks i ≠ key)) (fun iv _ => KL + 1 - (intOf iv).toNat)
 case atStart => exact ⟨0, by omega, rfl, rfl, Lib.hid (fun i hi => by omega)⟩
 case round =>
  obtain ⟨j, hj, rfl, rfl, HNE⟩ := hrel
  by_cases hlt : j < KL
  · obtain ⟨bk, ok, rfl, kc⟩ := HKK.out j (by rw [HKL.out]; exact hlt)
    have hj0 : (0 : Int) ≤ (j : Int) := by omega
    have hjk : (j : Int) < (KL : Int) := by omega
    have w1 : IntKind.i64.wrap ((j : Int) + 1) = (j : Int) + 1 := by rw [IntKind.wrap_i64]; omega
    have w1' : IntKind.i64.wrap (1 + (j : Int)) = 1 + (j : Int) := by rw [IntKind.wrap_i64]; omega
    by_cases heq : nth ks j = key
    · have hb : (nth ks j == key) = true := by simpa using heq
      obtain ⟨bb, oo, A0, n0, dd0, v0, v1, rfl, y0, y1, y2, hC⟩ := HSK.out (j + 1) (by rw [H2.out, HKL.out]; omega) (whichAt_found (by rw [HKL.out]; exact hlt) heq HNE.out)
      have HC := Lib.hid hC
      have w2 : (0 : Int) ≤ 1 + (j : Int) := by omega
      have w3 : 1 + (j : Int) < (KL : Int) + 1 := by omega
      have w4 : (1 + (j : Int)).toNat = j + 1 := by omega
      have w5 : (KL : Int) + 1 ≤ (cb : Int) := by omega
      clear hC heq
      go_wp2_with fail
      refine HC.out.mono ?_
      intro en V' h
      rcases h.ends with ⟨g', rfl, hP⟩ | ⟨ch, rfl, hP⟩
      · go_wp2_with fail
        go_ret
        exact hP
      · exact ⟨rfl, hP⟩
    · have hb : (nth ks j == key) = false := by simpa using heq
      have HN2 := Lib.hid (show ∀ i, i < j + 1 → nth ks i ≠ key from fun i hi => by
       by_cases hij : i = j
       · subst hij; exact heq
       · exact HNE.out i (by omega))
      clear heq
      go_wp2_with fail
      go_roundw
      case rel => exact ⟨j + 1, by omega, by go_num, (by first | rfl | trivial), HN2⟩
      case measure => simp [intOf]; omega
  · have hjk : j = KL := by omega
    subst hjk
    obtain ⟨bb, oo, A0, n0, dd0, v0, v1, rfl, y0, y1, y2, hC⟩ := HSK.out 0 (by rw [H2.out]; omega) (whichAt_none (by rw [HKL.out]; exact HNE.out))
    have HC := Lib.hid hC
    have w2 : (0 : Int) < (j : Int) + 1 := by omega
    have w5 : (j : Int) + 1 ≤ (cb : Int) := by omega
    simp only [Nat.zero_mul, Nat.add_zero] at y0 y1 y2
    clear hC
    go_wp2_with fail
    refine HC.out.mono ?_
    intro en V' h
    rcases h.ends with ⟨g', rfl, hP⟩ | ⟨ch, rfl, hP⟩
    · go_wp2_with fail
      go_ret
      exact hP
    · exact ⟨rfl, hP⟩
theorem side_any (hok : BodyOk rb B p inp fuel n) (hwf : ∀ g ∈ p.funs, WfA p.funs.length g.body) (hn : s.left < n) (hs : s.out.length + s.left < fuel) (hg : Good rb B p inp fuel s m W) {x k nn : Int} {ats : List Atm} {ks : List Int} {bl : List Anf} {Aa Ak Al : Option Addr} {ca ck cb : Nat} {e : PEnv} {ge : Value} (he : EnvIn rb m W e ge) (hb : BindOk p.funs.length x k nn ats ks bl.length) (hk10 : k ≠ 10)
 (ha : AtomsIn W.heap.size W Aa ats) (hk : IntsIn W.heap.size W Ak ks) (hkc : ks.length ≤ ck) (hbl : BlocksIn B W Al bl) (hblc : bl.length ≤ cb) (hwb : ∀ c ∈ bl, WfA p.funs.length c) :
 Calls Tryz.prog 63 #[.pointer (some ⟨rb, 0, none⟩), .agg #[.int .i64 k, .int .i64 nn, .slice Aa ats.length ca, .slice Ak ks.length ck, .slice Al bl.length cb], ge] W (EvPost rb B p inp fuel m W (sideF p inp n k nn ats ks bl e s)) := by
 rcases hb.kind with rfl | rfl | rfl | rfl | rfl | rfl | rfl | rfl
 · exact side_atom hg he ha nn (hb.one (.inl rfl))
 · exact side_prim hok hwf (by omega) hs hg he ha nn hb.primL (hb.prim rfl)
 · exact side_block hg he ha nn hb.block
 · exact side_field hg he ha nn (hb.one (.inr (.inl rfl))) hb.field
 · exact side_app hok hwf (by omega) hg he ha nn hb.app
 · exact side_switch hok hn hg he ha nn (hb.one (.inr (.inr rfl))) hb.switch hk hkc hbl hblc hwb
 · exact side_close hg he ha nn hb.close
 · exact absurd rfl hk10
end
end Go.Proofs.YtnobggabjpcbfaaGreat
namespace Go.Proofs.YtnobggabjpcbfaaGreat
open Go.RowKit
section
variable {rb B : Nat} {p : FlatP} {inp : List Int} {fuel n : Nat} {s : FSt} {m : Mem} {W : World}
theorem evF_ret (funs : List FFun) (inp : List Int) {k : Nat} (hk : 0 < k) (a : Atm) (e : PEnv) (s : FSt) : evF funs inp k (.ret a) e s = match atomP e a with | some v => (.val v, s) | none => (.stuck, s) := by
 obtain ⟨k, rfl⟩ : ∃ q, k = q + 1 := ⟨k - 1, by omega⟩
 rfl
theorem evF_cut (funs : List FFun) (inp : List Int) {k : Nat} (hk : 0 < k) (x kd nn : Int) (ats : List Atm) (ks : List Int) (bl : List Anf) (rest : Anf) (e : PEnv) (s : FSt) (h : s.left = 0) : evF funs inp k (.bind x kd nn ats ks bl rest) e s = (.cut, s) := by
 obtain ⟨k, rfl⟩ : ∃ q, k = q + 1 := ⟨k - 1, by omega⟩
 unfold evF
 rw [if_pos h]
theorem evF_group (funs : List FFun) (inp : List Int) {k : Nat} (x nn : Int) (ats : List Atm) (ks : List Int) (bl : List Anf) (rest : Anf) (e : PEnv) (s : FSt) (h : 0 < s.left) :
 evF funs inp (k + 1) (.bind x 10 nn ats ks bl rest) e s = match atomsP (groupEnv ks s.made.length e) ats with | some l => evF funs inp k rest (groupEnv ks s.made.length e) { s with left := s.left - 1, made := s.made ++ groupMade ks l } | none => (.stuck, { s with left := s.left - 1 }) := by
 show (if s.left = 0 then _ else _) = _
 rw [if_neg (by omega)]
 simp only [bindF, if_true]
 cases atomsP (groupEnv ks s.made.length e) ats <;> rfl
theorem evF_side (p : FlatP) (inp : List Int) {k : Nat} (x kd nn : Int) (ats : List Atm) (ks : List Int) (bl : List Anf) (rest : Anf) (e : PEnv) (s : FSt) (h : 0 < s.left) (hk : kd ≠ 10) :
 evF p.funs inp (k + 1) (.bind x kd nn ats ks bl rest) e s = FOut.andThen (sideF p inp k kd nn ats ks bl e { s with left := s.left - 1 }) fun v s => evF p.funs inp k rest ((x, v) :: e) s := by
 show (if s.left = 0 then _ else _) = _
 rw [if_neg (by omega)]
 simp only [bindF, if_neg hk, sideF]
 cases atomsP e ats <;> rfl
theorem sideF_le (inp : List Int) (n : Nat) (k nn : Int) (ats : List Atm) (ks : List Int) (bl : List Anf) (e : PEnv) (s : FSt) : LeF s (sideF p inp n k nn ats ks bl e s).2 1 := by
 unfold sideF
 cases atomsP e ats with
 | some l => exact rhsF_le (funs := p.funs) (inp := inp) (evF_le p.funs inp n) k nn l ks bl e s
 | none => exact LeF.refl _ _
theorem WfA.tail {nf : Nat} : ∀ {t : Anf}, WfA nf t → ∀ j, WfA nf (t.tail j)
 | t, h, 0 => by rw [Anf.tail_zero]; exact h
 | .ret a, h, j + 1 => h
 | .bind _ _ _ _ _ _ r, h, j + 1 => by
  cases h with
  | bind _ _ hr => exact hr.tail j
structure BodyAt (rb B : Nat) (p : FlatP) (inp : List Int) (fuel n : Nat) (m : Mem) (W W0 : World) (t : Anf) (out : FOut) (j : Nat) (kv : Value) (wr : World) (e : PEnv) (s : FSt) (mj : Mem) (k : Nat) : Prop where
 env : EnvIn rb mj wr e kv
 good : Good rb B p inp fuel s mj wr
 evo : Evo rb m mj W0 wr
 out : out = evF p.funs inp k (t.tail j) e s
 lt : s.left < k
 le : k ≤ n
theorem body_step (hok : ∀ k, k < n → BodyOk rb B p inp fuel k) (hwf : ∀ g ∈ p.funs, WfA p.funs.length g.body) : BodyOk rb B p inp fuel n := by
 intro t e s m W ga ge hin hwt he hg hn
 obtain ⟨A, c, b, o, rfl, hc, h96, hA, hB⟩ := hin.at_
 obtain ⟨pk, rfl⟩ := he.shape
 obtain ⟨W0, hW0⟩ : ∃ W0, W.alloc (.cells #[.slice A t.len c, .bool t.last.v, .int .i64 t.last.n] 27) = W0 := ⟨_, rfl⟩
 have hb0 : Below W.heap.size W W0 := by rw [← hW0]; exact (Below.refl _ _).alloc (Nat.le_refl _) _
 have hE0 : Evo rb m m W W0 := Evo.below hb0
 have hat : At rb m W0 W.heap.size (.cells #[.slice A t.len c, .bool t.last.v, .int .i64 t.last.n] 27 (0, 0)) := by rw [← hW0]; exact at_new (fun k hk => hg.mutLt hk) _ _
 have HC := Lib.hid (fun (V : World) (m' : Mem) (hE : Evo rb m m' W0 V) => (show V.cell? ⟨W.heap.size, 0, none⟩ = some (.slice A t.len c) ∧ V.cell? ⟨W.heap.size, 1, none⟩ = some (.bool t.last.v) ∧ V.cell? ⟨W.heap.size, 2, none⟩ = some (.int .i64 t.last.n) from
  ⟨at_cell0 (hat.evo hE) rfl, at_cell0 (hat.evo hE) rfl, at_cell0 (hat.evo hE) rfl⟩))
 have c0 := ((HC.out W0 m (Evo.refl _ _ _))).1
 have HBI := Lib.hid (fun (j : Nat) (hj : j < t.len) (V : World) (m' : Mem) (hE : Evo rb m m' W0 V) =>
  (show ∃ x k nn ats ks bl Aa ca Ak ck Al cl, A = some ⟨b, o, none⟩ ∧ t.tail j = .bind x k nn ats ks bl (t.tail (j + 1)) ∧ V.cell? ⟨b, o + j * 6, none⟩ = some (.int .i64 x) ∧ V.cell? ⟨b, o + j * 6 + 1, none⟩ = some (.int .i64 k) ∧ V.cell? ⟨b, o + j * 6 + 2, none⟩ = some (.int .i64 nn) ∧
   V.cell? ⟨b, o + j * 6 + 3, none⟩ = some (.slice Aa ats.length ca) ∧ V.cell? ⟨b, o + j * 6 + 4, none⟩ = some (.slice Ak ks.length ck) ∧ V.cell? ⟨b, o + j * 6 + 5, none⟩ = some (.slice Al bl.length cl) ∧
   BindOk p.funs.length x k nn ats ks bl.length ∧ AtomsIn B V Aa ats ∧ IntsIn B V Ak ks ∧ ks.length ≤ ck ∧ BlocksIn B V Al bl ∧ bl.length ≤ cl ∧ (∀ c ∈ bl, WfA p.funs.length c) from by
   obtain ⟨x, k, nn, ats, ks, bl, Aa, ca, Ak, ck, Al, cl, h1, h2⟩ := hB j hj
   have hbV : Below B W V := (hb0.mono hg.Bs).trans ((hg.below hb0).stay hE)
   have hw : WfA p.funs.length (.bind x k nn ats ks bl (t.tail (j + 1))) := by rw [← h1]; exact hwt.tail j
   cases hw with
   | bind hbe hbb hbr =>
    refine ⟨x, k, nn, ats, ks, bl, Aa, ca, Ak, ck, Al, cl, hA (by omega), h1, (hbV.cell (p := ⟨_, _, none⟩) h2.lt).trans h2.c0, (hbV.cell (p := ⟨_, _, none⟩) h2.lt).trans h2.c1, (hbV.cell (p := ⟨_, _, none⟩) h2.lt).trans h2.c2, (hbV.cell (p := ⟨_, _, none⟩) h2.lt).trans h2.c3, (hbV.cell (p := ⟨_, _, none⟩) h2.lt).trans h2.c4, (hbV.cell (p := ⟨_, _, none⟩) h2.lt).trans h2.c5,
     bindOk_of hbe, h2.ha.below hbV, h2.hk.below hbV, h2.hkc, ⟨h2.hl8, fun q hq => ?_⟩, h2.hlc, hbb⟩
    obtain ⟨bb, oo, g0, g1, g2, e1, e2, e3, e4, e5, hbd⟩ := h2.blk q hq
    exact ⟨bb, oo, g0, g1, g2, e1, e2, (hbV.cell (p := ⟨_, _, none⟩) e2).trans e3, (hbV.cell (p := ⟨_, _, none⟩) e2).trans e4, (hbV.cell (p := ⟨_, _, none⟩) e2).trans e5, hbd.kept hbV⟩))
 have HT := Lib.hid (Anf.tail_ret t)
 have HWB := Lib.hid (hg.Bs)
 have HOK := Lib.hid hok
 have HWF := Lib.hid hwf
 have HE0 := Lib.hid hE0
 obtain ⟨out, hout⟩ : ∃ out, evF p.funs inp n t e s = out := ⟨_, rfl⟩
 have hst : BodyAt rb B p inp fuel n m W W0 t out 0 (.pointer pk) W0 e s m n := ⟨he.evo hE0, hg.below hb0, Evo.refl _ _ _, by rw [Anf.tail_zero]; exact hout.symm, hn, Nat.le_refl _⟩
 have HST := Lib.hid hst
 rw [hout]
 clear hst hout hat hB hin he hg hb0 hE0 hok hwf hwt hn hA
 have hT64 : t.len ≤ 2000000000000 := by omega
 obtain ⟨T, hT⟩ : ∃ T, t.len = T := ⟨_, rfl⟩
 rw [hT] at hc h96 hW0 HC c0 HBI HT hT64 ⊢
 clear hT h96
 go_enter Tryz.func40, Tryz.ntmps40
 go_wp2_with fail
 go_loopw [2, 12] (fun kv iv wr => ∃ (j : Nat) (e' : PEnv) (s' : FSt) (mj : Mem) (k : Nat), j ≤ T ∧ iv = .int .i64 (j : Int) ∧ Hid (BodyAt rb B p inp fuel n m W W0 t out j kv wr e' s' mj k)) (fun _ iv _ => T + 1 - (intOf iv).toNat)
 case atStart => exact ⟨0, e, s, m, n, by omega, rfl, HST⟩
 case round =>
  obtain ⟨j, e', s', mj, k, hj, rfl, HJ⟩ := hrel
  obtain ⟨pj, rfl⟩ := HJ.out.env.shape
  obtain ⟨q0, q1, q2⟩ := HC.out wr mj HJ.out.evo
  by_cases hlt : j < T
  · obtain ⟨x, kd, nn, ats, ks, bl, Aa, ca, Ak, ck, Al, cl, rfl, htail, r0, r1, r2, r3, r4, r5, hbo, hats, hks, hkc, hbl, hblc, hwb⟩ := HBI.out j hlt wr mj HJ.out.evo
    have hj0 : (0 : Int) ≤ (j : Int) := by omega
    have hjl : (j : Int) < (T : Int) := by omega
    have hjc : (T : Int) ≤ (c : Int) := by omega
    have w1 : IntKind.i64.wrap ((j : Int) + 1) = (j : Int) + 1 := by rw [IntKind.wrap_i64]; omega
    obtain ⟨W1, hW1⟩ : ∃ W1, wr.alloc (.cells #[.int .i64 x, .int .i64 kd, .int .i64 nn, .slice Aa ats.length ca, .slice Ak ks.length ck, .slice Al bl.length cl] 62) = W1 := ⟨_, rfl⟩
    have hb1 : Below wr.heap.size wr W1 := by rw [← hW1]; exact (Below.refl _ _).alloc (Nat.le_refl _) _
    have hE1 : Evo rb mj mj wr W1 := Evo.below hb1
    have hat : At rb mj W1 wr.heap.size (.cells #[.int .i64 x, .int .i64 kd, .int .i64 nn, .slice Aa ats.length ca, .slice Ak ks.length ck, .slice Al bl.length cl] 62 (0, 0)) := by rw [← hW1]; exact at_new (fun k hk => HJ.out.good.mutLt hk) _ _
    have hg1 := HJ.out.good.below hb1
    have HS1 := Lib.hid (step_any hg1)
    have HS := Lib.hid (fun (V : World) (m' : Mem) (hE : Evo rb mj m' W1 V) => (show V.cell? ⟨wr.heap.size, 0, none⟩ = some (.int .i64 x) ∧ V.cell? ⟨wr.heap.size, 1, none⟩ = some (.int .i64 kd) ∧ V.cell? ⟨wr.heap.size, 2, none⟩ = some (.int .i64 nn) ∧ V.cell? ⟨wr.heap.size, 3, none⟩ = some (.slice Aa ats.length ca) ∧ V.cell? ⟨wr.heap.size, 4, none⟩ = some (.slice Ak ks.length ck) ∧ V.cell? ⟨wr.heap.size, 5, none⟩ = some (.slice Al bl.length cl) from
     ⟨at_cell0 (hat.evo hE) rfl, at_cell0 (hat.evo hE) rfl, at_cell0 (hat.evo hE) rfl, at_cell0 (hat.evo hE) rfl, at_cell0 (hat.evo hE) rfl, at_cell0 (hat.evo hE) rfl⟩))
    obtain ⟨k, rfl⟩ : ∃ q, k = q + 1 := ⟨k - 1, by have := HJ.out.lt; omega⟩
    have HEW := Lib.hid (fun (V : World) (m' : Mem) (hE : Evo rb mj m' W1 V) => (show Evo rb m m' W V from (HE0.out.trans HJ.out.evo).trans (hE1.trans hE)))
    have HE1 := Lib.hid hE1
    have HOUT := Lib.hid (HJ.out.out.trans (congrArg (fun t => evF p.funs inp (k + 1) t e' s') htail))
    have hltk := HJ.out.lt
    have hlek := HJ.out.le
    have HENV := Lib.hid (HJ.out.env.evo hE1)
    have HBL := Lib.hid hbl
    have HAT := Lib.hid hats
    have HKS := Lib.hid hks
    have HBO := Lib.hid hbo
    have HB1 := Lib.hid (hg1.stay (Evo.refl rb mj W1))
    have HBW := Lib.hid (HJ.out.good.stay hE1)
    have HBS := Lib.hid hg1.Bs
    have HBN := Lib.hid hg1.bnd
    clear hb1 hE1 hat hg1 htail hbl hats hks hbo
    go_wp2_with fail
    refine HS1.out.mono ?_
    rintro en V2 (⟨hl, rfl, hg2, hE2⟩ | ⟨hl, rfl, hg2, hE2⟩)
    rotate_left
    · refine ⟨rfl, ?_⟩
      rw [HOUT.out, evF_cut _ _ (by omega) _ _ _ _ _ _ _ _ _ hl]
      exact .cut (HEW.out _ _ hE2) hg2 (thrown_one _ _)
    have HLEFT := Lib.hid hl
    obtain ⟨x0, x1, x2, x3, x4, x5⟩ := HS.out V2 mj hE2
    have hBV : Below B wr V2 := (HBW.out).trans ⟨hE2.os, hE2.tape, hE2.output, hE2.size, fun q hq => hE2.same q (Nat.lt_of_lt_of_le hq HBS.out) (fun hm => by have := hg2.mutB hm; omega)⟩
    have hB2 := hg2.Bs
    by_cases hk10 : kd = 10
    · subst hk10
      obtain ⟨q, hgok⟩ := HBO.out.group_
      have HG := Lib.hid (group_any hg2 hgok (Aa := Aa) (ca := ca) (Al := Al) (lb := bl.length) (cb := cl) ((HAT.out.below hBV).mono hB2) ((HKS.out.below hBV).mono hB2) hkc (HENV.out.evo hE2) 10 nn)
      have HG2 := Lib.hid hg2
      have HE2 := Lib.hid hE2
      clear hgok hg2 hE2 hBV hB2 hl
      go_wp2_with fail
      refine HG.out.mono ?_
      rintro en V3 (⟨l, m3, pp, hv, rfl, hE3, hg3, hen⟩ | ⟨hv, rfl, hb3⟩)
      · have HN := Lib.hid (show BodyAt rb B p inp fuel n m W W0 t out (j + 1) (.pointer pp) V3 (groupEnv ks s'.made.length e') { s' with left := s'.left - 1, made := s'.made ++ groupMade ks l } m3 k from
         ⟨hen, hg3, HJ.out.evo.trans ((HE1.out.trans HE2.out).trans hE3), by rw [HOUT.out, evF_group _ _ _ _ _ _ _ _ _ _ HLEFT.out]; simp only [hv], by have := HLEFT.out; show s'.left - 1 < k; omega, by omega⟩)
        clear hen hg3 hE3 hv
        go_wp2_with fail
        go_roundw
        case rel => exact ⟨j + 1, _, _, m3, k, by omega, by go_num, HN⟩
        case measure => simp [intOf]; omega
      · refine ⟨rfl, ?_⟩
        rw [HOUT.out, evF_group _ _ _ _ _ _ _ _ _ _ HLEFT.out]
        simp only [hv]
        exact .stuck (HEW.out _ _ (HE2.out.trans (Evo.below hb3))) (HG2.out.below hb3) (thrown_one _ _)
    · have hkb : (kd == 10) = false := by simpa using hk10
      have HSI := Lib.hid (fun (V : World) (hV : Below V2.heap.size V2 V) => (show Calls Tryz.prog 63 #[.pointer (some ⟨rb, 0, none⟩), .agg #[.int .i64 kd, .int .i64 nn, .slice Aa ats.length ca, .slice Ak ks.length ck, .slice Al bl.length cl], .pointer pj] V fun en V' =>
       (∃ v s3 m3 T' y, Evo rb mj m3 W1 V' ∧ en = .returned (.iface T' y) ∧ Good rb B p inp fuel s3 m3 V' ∧ RepV rb m3 V' v (.iface T' y) ∧ sideF p inp k kd nn ats ks bl e' { s' with left := s'.left - 1 } = (.val v, s3)) ∨ (∃ ch m3, Evo rb mj m3 W1 V' ∧ en = .panicked ch ∧ EvPost rb B p inp fuel m W out (.panicked ch) V') from by
       have hEV : Evo rb mj mj V2 V := Evo.below hV
       have hBB := hBV.trans (hV.mono hB2)
       have hBV2 := Nat.le_trans hB2 hV.size
       refine (side_any (HOK.out k (by omega)) HWF.out (by show s'.left - 1 < k; omega) (by have := HBN.out; show s'.out.length + (s'.left - 1) < fuel; omega) (hg2.below hV) ((HENV.out.evo hE2).evo hEV) HBO.out hk10 ((HAT.out.below hBB).mono hBV2) ((HKS.out.below hBB).mono hBV2) hkc
        ⟨HBL.out.1, fun q hq => ?_⟩ hblc hwb).mono fun en V' h => ?_
       · obtain ⟨bb, oo, g0, g1, g2, e1, e2, e3, e4, e5, hbd⟩ := HBL.out.2 q hq
         exact ⟨bb, oo, g0, g1, g2, e1, e2, (hBB.cell (p := ⟨_, _, none⟩) e2).trans e3, (hBB.cell (p := ⟨_, _, none⟩) e2).trans e4, (hBB.cell (p := ⟨_, _, none⟩) e2).trans e5, hbd.kept hBB⟩
       · obtain ⟨mE, hmE⟩ := h.evo
         rcases h.inv with ⟨v, s3, m3, T', y, h1, rfl, h3, h4, h5⟩ | ⟨ch, rfl, h2, h3, h4⟩
         · exact .inl ⟨v, s3, m3, T', y, hE2.trans (hEV.trans h3), rfl, h4, h5, h1⟩
         · refine .inr ⟨ch, mE, hE2.trans (hEV.trans hmE), rfl, ?_⟩
           rw [HOUT.out, evF_side _ _ _ _ _ _ _ _ _ _ _ HLEFT.out hk10]
           exact (h4 _).from_ (HEW.out _ _ (hE2.trans hEV))))
      have HE2 := Lib.hid hE2
      clear hg2 hE2 hBV hB2 hl
      go_wp2_with fail
      go_region_held2 (fun V => V.cell? ⟨wr.heap.size, 0, none⟩ = some (.int .i64 x) ∧ V.cell? ⟨wr.heap.size, 1, none⟩ = some (.int .i64 kd) ∧ V.cell? ⟨wr.heap.size, 2, none⟩ = some (.int .i64 nn) ∧ V.cell? ⟨wr.heap.size, 3, none⟩ = some (.slice Aa ats.length ca) ∧ V.cell? ⟨wr.heap.size, 4, none⟩ = some (.slice Ak ks.length ck) ∧ V.cell? ⟨wr.heap.size, 5, none⟩ = some (.slice Al bl.length cl))
       (first | exact HS.out _ _ HE2.out.drew | exact HS.out _ _ hEV | exact HS.out _ _ (hEV.trans (Evo.alloc _ _ _ _)))
       ((go_at_call 63; refine (HSI.out _ (Below.refl _ _).drew).mono ?_; rintro en V' (⟨v, s3, m3, T', y, hEV, rfl, hg3, hrv, hsv⟩ | ⟨ch, m3, hEV, rfl, hP⟩); rotate_left; exact ⟨rfl, hP⟩))
      all_goals
       have hle := sideF_le (p := p) inp k kd nn ats ks bl e' { s' with left := s'.left - 1 }
       rw [hsv] at hle
       have hle2 := hle.left
       have HN := Lib.hid (show BodyAt rb B p inp fuel n m W W0 t out (j + 1) (.pointer (some ⟨V'.heap.size, 0, none⟩)) (V'.alloc (.cells #[.int .i64 x, .iface T' y, .pointer pj] 124)) ((x, v) :: e') s3 m3 k from
        ⟨.cons (at_new (fun k hk => hg3.mutLt hk) _ _) (hrv.evo (Evo.alloc _ _ _ _)) ((HENV.out.evo hEV).evo (Evo.alloc _ _ _ _)), hg3.below ((Below.refl _ _).alloc (Nat.le_refl _) _), (HJ.out.evo.trans (HE1.out.trans hEV)).trans (Evo.alloc _ _ _ _),
         by rw [HOUT.out, evF_side _ _ _ _ _ _ _ _ _ _ _ HLEFT.out hk10, hsv]; rfl, by have := HLEFT.out; simp only at hle2; omega, by omega⟩)
       clear hle hle2 hg3 hrv hsv hEV
       go_wp2_with fail
       go_roundw
       case rel => exact ⟨j + 1, _, _, m3, k, by omega, by go_num, HN⟩
       case measure => simp [intOf]; omega
  · have hjT : j = T := by omega
    subst hjT
    have hjj : ¬ (j : Int) < (j : Int) := by omega
    have HA := Lib.hid ((atom_any (rb := rb) (m := mj) (W := wr) (V := wr) (Below.refl _ _) HJ.out.env t.last).mono (R' := fun en V => ∃ m', EvPost rb B p inp fuel m W out en V) fun en V h => by
     have ho := HJ.out.out
     rw [HT.out j (Nat.le_refl _), evF_ret _ _ (by have := HJ.out.lt; omega)] at ho
     have hE := HE0.out.trans HJ.out.evo
     refine ⟨mj, ?_⟩
     rcases h with ⟨v, T', x', k1, rfl, k3, k4⟩ | ⟨k1, rfl, k4⟩
     · rw [ho, k1]
       exact .val (hE.trans (Evo.below k4)) (HJ.out.good.below k4) (k3.evo (Evo.below k4))
     · rw [ho, k1]
       exact .stuck (hE.trans (Evo.below k4)) (HJ.out.good.below k4) (thrown_one _ _))
    go_wp2_with fail
    refine HA.out.mono ?_
    rintro en V ⟨-, h⟩
    rcases h.ends with ⟨g', rfl, hP⟩ | ⟨ch, rfl, hP⟩
    · go_wp2_with fail
      go_ret
      exact hP
    · exact ⟨rfl, hP⟩
end
end Go.Proofs.YtnobggabjpcbfaaGreat
namespace Go.Proofs.YtnobggabjpcbfaaGreat
open Go.RowKit
theorem body_ok (rb B : Nat) (p : FlatP) (inp : List Int) (fuel : Nat) (hwf : ∀ g ∈ p.funs, WfA p.funs.length g.body) (n : Nat) : BodyOk rb B p inp fuel n := by
 induction n using Nat.strongRecOn with
 | _ n ih => exact body_step ih hwf
/-! ### the deferred closure -/
theorem whole1_idle (rv rb : Nat) (x : Value) (V : World) (hr : V.cell? ⟨rv, 0, none⟩ = some (.pointer (some ⟨rb, 0, none⟩))) (h2 : V.cell? ⟨rb, 6, none⟩ = some (.int .i64 0)) (f2 : V.frozen? ⟨rb, 6, none⟩ = false) :
 CallsD Tryz.prog 38 #[.pointer (some ⟨rv, 0, none⟩)] .returning V fun e u' w' => e = .returned (.tuple #[]) ∧ u' = .returning ∧ w' = V.setCell ⟨rb, 6, none⟩ (.int .i64 1) := by
 refine callsD_of_wpS Tryz.func38 rfl fun c₀ cs hu => ?_
 apply wpS_seq
 apply wpS_region
 simp [wpOpsS, go_sem, recoverD, hu, Tryz.ntmps38, Exit.thenS]
 refine wpS_of_wp (Code.wp_mono (Q := fun e a w' => e = .normal ∧ a.defers = [] ∧ w' = V.setCell ⟨rb, 6, none⟩ (.int .i64 1)) ?_ ?_)
 · rintro e a w' ⟨rfl, h1, rfl⟩
   cases c₀
   simp_all [bodyPostS, results, Tryz.results38]
 simp only [Array.replicate_succ, Array.replicate_zero, List.push_toArray, List.setIfInBounds_toArray, List.set_cons_zero, List.set_cons_succ, List.append_toArray, List.nil_append, List.cons_append]
 clear hu
 go_wp2_with fail
theorem whole1_stop (rv rb : Nat) (k : Int) (older : List PanicEntry) (V : World) (hr : V.cell? ⟨rv, 0, none⟩ = some (.pointer (some ⟨rb, 0, none⟩))) (h2 : V.cell? ⟨rb, 6, none⟩ = some (.int .i64 0)) (f2 : V.frozen? ⟨rb, 6, none⟩ = false) :
 CallsD Tryz.prog 38 #[.pointer (some ⟨rv, 0, none⟩)] (.panicking ({ v := .iface 90 (.agg #[.int .i64 k]), recovered := false } :: older)) V
  fun e u' w' => e = .returned (.tuple #[]) ∧ u' = .panicking ({ v := .iface 90 (.agg #[.int .i64 k]), recovered := true } :: older) ∧ w' = (V.alloc (.cells #[.int .i64 k] 90)).setCell ⟨rb, 6, none⟩ (.int .i64 k) := by
 have hrl := World.block_lt_of_cell? _ _ hr
 have h2l := World.block_lt_of_cell? _ _ h2
 have hn := World.new_ne _ _ hr
 have hn' := World.new_ne _ _ h2
 refine callsD_of_wpS Tryz.func38 rfl fun c₀ cs hu => ?_
 apply wpS_seq
 apply wpS_region
 simp [wpOpsS, go_sem, recoverD, hu, Tryz.ntmps38, Exit.thenS]
 refine wpS_of_wp (Code.wp_mono (Q := fun e a w' => e = .normal ∧ a.defers = [] ∧ w' = (V.alloc (.cells #[.int .i64 k] 90)).setCell ⟨rb, 6, none⟩ (.int .i64 k)) ?_ ?_)
 · rintro e a w' ⟨rfl, h1, rfl⟩
   cases c₀
   simp_all [bodyPostS, results, Tryz.results38]
 simp only [Array.replicate_succ, Array.replicate_zero, List.push_toArray, List.setIfInBounds_toArray, List.set_cons_zero, List.set_cons_succ, List.append_toArray, List.nil_append, List.cons_append]
 clear hu
 go_wp2_with fail
theorem whole1_raised (rv rb : Nat) (k : Int) (T : TypeId) (y : Value) (older : List PanicEntry) (V : World) (hr : V.cell? ⟨rv, 0, none⟩ = some (.pointer (some ⟨rb, 0, none⟩))) (h2 : V.cell? ⟨rb, 6, none⟩ = some (.int .i64 0)) (f2 : V.frozen? ⟨rb, 6, none⟩ = false) (h3 : V.cell? ⟨rb, 7, none⟩ = some (.int .i64 0)) (f3 : V.frozen? ⟨rb, 7, none⟩ = false) (hne : rv ≠ rb)
 (hkey : Calls Tryz.prog 39 #[.iface T y] ((V.setCell ⟨rb, 6, none⟩ (.int .i64 4)).alloc (.cells #[.iface T y] 94)) fun e w' => e = .returned (.int .i64 k) ∧ (V.setCell ⟨rb, 6, none⟩ (.int .i64 4)).alloc (.cells #[.iface T y] 94) = w') :
 CallsD Tryz.prog 38 #[.pointer (some ⟨rv, 0, none⟩)] (.panicking ({ v := .iface 94 (.agg #[.iface T y]), recovered := false } :: older)) V
  fun e u' w' => e = .returned (.tuple #[]) ∧ u' = .panicking ({ v := .iface 94 (.agg #[.iface T y]), recovered := true } :: older) ∧
   w' = if 0 ≤ k then (((V.setCell ⟨rb, 6, none⟩ (.int .i64 4)).alloc (.cells #[.iface T y] 94)).setCell ⟨rb, 6, none⟩ (.int .i64 2)).setCell ⟨rb, 7, none⟩ (.int .i64 k) else (V.setCell ⟨rb, 6, none⟩ (.int .i64 4)).alloc (.cells #[.iface T y] 94) := by
 have hrl := World.block_lt_of_cell? _ _ hr
 have h2l := World.block_lt_of_cell? _ _ h2
 have hn := World.new_ne _ _ hr
 have hn' := World.new_ne _ _ h2
 refine callsD_of_wpS Tryz.func38 rfl fun c₀ cs hu => ?_
 apply wpS_seq
 apply wpS_region
 simp [wpOpsS, go_sem, recoverD, hu, Tryz.ntmps38, Exit.thenS]
 refine wpS_of_wp (Code.wp_mono (Q := fun e a w' => e = .normal ∧ a.defers = [] ∧ w' = if 0 ≤ k then (((V.setCell ⟨rb, 6, none⟩ (.int .i64 4)).alloc (.cells #[.iface T y] 94)).setCell ⟨rb, 6, none⟩ (.int .i64 2)).setCell ⟨rb, 7, none⟩ (.int .i64 k) else (V.setCell ⟨rb, 6, none⟩ (.int .i64 4)).alloc (.cells #[.iface T y] 94)) ?_ ?_)
 · rintro e a w' ⟨rfl, h1, rfl⟩
   cases c₀
   simp_all [bodyPostS, results, Tryz.results38]
 simp only [Array.replicate_succ, Array.replicate_zero, List.push_toArray, List.setIfInBounds_toArray, List.set_cons_zero, List.set_cons_succ, List.append_toArray, List.nil_append, List.cons_append]
 have HK := Lib.hid hkey
 clear hu hkey
 by_cases hk : 0 ≤ k
 · rw [if_pos hk]
   go_wp2_with (go_at_call 39; refine HK.out.mono ?_; rintro e w' ⟨rfl, rfl⟩)
 · rw [if_neg hk]
   have hk' : k < 0 := by omega
   go_wp2_with (go_at_call 39; refine HK.out.mono ?_; rintro e w' ⟨rfl, rfl⟩)
structure Rest (rb : Nat) (V V' : World) : Prop where
 os : V'.os = V.os
 tape : V'.tape = V.tape
 output : V'.output = V.output
 size : V.heap.size ≤ V'.heap.size
 same : ∀ k, k < V.heap.size → k ≠ rb → V'.heap[k]? = V.heap[k]?
theorem Rest.refl (rb : Nat) (V : World) : Rest rb V V := ⟨rfl, rfl, rfl, Nat.le_refl _, fun _ _ _ => rfl⟩
theorem Rest.alloc {rb : Nat} {V V' : World} (h : Rest rb V V') (o : Obj) : Rest rb V (V'.alloc o) :=
 have hb : Below V'.heap.size V' (V'.alloc o) := (Below.refl _ _).alloc (Nat.le_refl _) _
 ⟨h.os, h.tape, h.output, Nat.le_trans h.size hb.size, fun k hk hn => (hb.block k (Nat.lt_of_lt_of_le hk h.size)).trans (h.same k hk hn)⟩
theorem Rest.set {rb : Nat} {V V' : World} (h : Rest rb V V') (o : Nat) (v : Value) : Rest rb V (V'.setCell ⟨rb, o, none⟩ v) :=
 ⟨h.os, h.tape, h.output, by simpa [World.setCell] using h.size, fun k hk hn => (heap_set_ne hn _ _).trans (h.same k hk hn)⟩
theorem Rest.evo {rb : Nat} {V V' V2 : World} (h : Rest rb V V') {m m' : Mem} (hk : Evo rb m m' V' V2) (hm : ∀ k, m.mut rb k → k = rb ∨ V.heap.size ≤ k) : Rest rb V V2 :=
 ⟨hk.os.trans h.os, hk.tape.trans h.tape, hk.output.trans h.output, Nat.le_trans h.size hk.size, fun k hlt hn => (hk.same k (Nat.lt_of_lt_of_le hlt h.size) (fun hx => by rcases hm k hx with e | e; exact hn e; omega)).trans (h.same k hlt hn)⟩
def WholePost (rb B : Nat) (V : World) (pe : PEnd) (e : Ending) (V' : World) : Prop :=
 e = .returned (.tuple #[]) ∧ Rest rb V V' ∧ ∃ f0 f1 f2 f3 x0 x1 vo, V'.heap[rb]? = some (.cells #[f0, f1, f2, f3, x0, x1, .int .i64 pe.kind, .int .i64 pe.n, vo, .int .i64 pe.steps] 69 (0, 0)) ∧ V'.ownsRow B 3 1 vo pe.out.length (pe.out.map (Value.int .i64))
def m0 : Mem := ⟨[], [], .slice none 0 0⟩
theorem m0_mut {rb k : Nat} (h : m0.mut rb k) : k = rb := by
 rcases h with h | h | h
 · exact h
 · simp [m0, Value.ownBlock] at h
 · simp [m0] at h
end Go.Proofs.YtnobggabjpcbfaaGreat
