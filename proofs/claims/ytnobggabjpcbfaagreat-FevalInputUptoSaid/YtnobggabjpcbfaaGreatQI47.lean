/-
 6 texts of this seat in one: FV40 FV41 FV42 FV43 FV44 FV45.
-/
import Derived.Test.YtnobggabjpcbfaaGreatQI32
import Derived.Test.YtnobggabjpcbfaaGreatQI46
set_option maxRecDepth 100000
set_option maxHeartbeats 16000000
set_option linter.unusedVariables false
set_option linter.unusedSimpArgs false
namespace Go.Proofs.YtnobggabjpcbfaaGreat
open Go.RowKit
section
variable {X Y : Nat → Prop} {B mb cb n nf nc : Nat} {p : FlatP} {fv : Value} {inp : List Int} {fuel : FL} {s s1 : FSt} {W W' W1 W2 V0 w w' : World} {o : FOut}
theorem rterm_step (hok : ∀ m, m < n → RBodyOk p B mb cb fv inp m) (hwf : ∀ g ∈ p.funs, WfA p.funs.length g.body ∧ ShortA g.body) : RBodyOk p B mb cb fv inp n := by
 intro X fuel s W t g0 g1 g2 e pv h hX hfv hmd hin hwt hsh he hn
 have hin0 := hin
 obtain ⟨A0, c0, b9, o9, hv9, hcl9, h96, -⟩ := hin0
 simp only [Array.mk.injEq, List.cons.injEq, and_true] at hv9
 obtain ⟨rfl, rfl, rfl⟩ := hv9
 obtain ⟨pk, rfl⟩ := he.shape
 obtain ⟨V0, hV0⟩ : ∃ V0, (W.alloc (.cells #[.slice A0 t.len c0, .bool t.last.v, .int .i64 t.last.n] 27)).alloc (.cells #[.int .i64 0, .int .i64 0, .slice none 0 0] 46) = V0 := ⟨_, rfl⟩
 have hb0 : Below W.heap.size W V0 := by rw [← hV0]; exact below_al2 _ _ _
 have hbx1 : V0.heap[W.heap.size + 1]? = some (.cells #[.int .i64 0, .int .i64 0, .slice none 0 0] 46 (0, 0)) := by rw [← hV0]; exact new2 _ _ _
 have hbx0 : V0.heap[W.heap.size]? = some (.cells #[.slice A0 t.len c0, .bool t.last.v, .int .i64 t.last.n] 27 (0, 0)) := by
  rw [← hV0]
  exact ((below_al1 _ _).block W.heap.size (by simp)).trans (new1 _ _)
 obtain ⟨o, ho⟩ : ∃ o, evF p.funs inp n t e s = o := ⟨_, rfl⟩
 rw [ho]
 have hfr : TFr X p B mb cb fv inp fuel s n W V0 t A0 c0 := ⟨h, hX, hfv, hwf, hok, hwt, hsh, hb0, hbx0, hbx1⟩
 have F := Lib.hid hfr
 have HI0 := Lib.hid (show TIn X p B mb cb fv inp fuel s n W V0 t o 0 V0 (.pointer pk) n s e from
  ⟨(RIn.bx h (Nat.le_succ _)).below hb0, Stp.refl _, ⟨Nat.le_refl _, Nat.le_refl _⟩, hmd, (he.bx (Nat.le_succ _)).step (KpX.below hb0) (Nat.le_refl _) (Nat.le_refl _), by rw [Anf.tail_zero]; exact ho.symm, hn, Nat.le_refl _⟩)
 obtain ⟨b, oo, hA, hB⟩ := hfr.bind_ hin
 have HB := Lib.hid hB
 have HA := Lib.hid hA
 have hl64 : t.len * 96 ≤ 140737488351232 := h96
 clear h hX hfv hmd hin hwt hsh he hn hok hwf hb0 hbx0 hbx1 hfr ho hA hB
 go_enter Tryz.func29, Tryz.ntmps29
 go_wp2_with fail
 go_loopw [7, 2] (fun iv ev wr => ∃ (i m : Nat) (s1 : FSt) (e1 : PEnv), i ≤ t.len ∧ iv = .int .i64 (i : Int) ∧ Hid (TIn X p B mb cb fv inp fuel s n W V0 t o i wr ev m s1 e1)) (fun iv _ _ => t.len + 1 - (intOf iv).toNat)
 case atStart => exact ⟨0, n, s, e, by omega, rfl, HI0⟩
 case round =>
  obtain ⟨i, m, s1, e1, hi, rfl, HT⟩ := hrel
  obtain ⟨pe, rfl⟩ := HT.out.env.shape
  obtain ⟨r0, r1, r2, r3⟩ := F.out.cells HT.out.st
  have mc0 := HT.out.go_.c.ptr
  by_cases hlt : i < t.len
  · obtain ⟨x, k, nn, ats, ks, bl, Aa, ca, Ak, ck, Al, cl, hbf⟩ := HB.out i hlt
    have HBF := Lib.hid hbf
    have hbw := hbf wr (F.out.belB HT.out.st)
    have hA0 := HA.out (by omega)
    subst hA0
    have d0 := hbw.c0
    have d1 := hbw.c1
    have d2 := hbw.c2
    have d3 := hbw.c3
    have d4 := hbw.c4
    have d5 := hbw.c5
    have hj0 : (0 : Int) ≤ (i : Int) := by omega
    have hjl : (i : Int) < (t.len : Int) := by omega
    have hwi : IntKind.i64.wrap ((i : Int) + 1) = (i : Int) + 1 := by rw [IntKind.wrap_i64]; omega
    have HV1 := Lib.hid (below_al1 wr (.cells #[.int .i64 x, .int .i64 k, .int .i64 nn, .slice Aa ats.length ca, .slice Ak ks.length ck, .slice Al bl.length cl] 62))
    have mc1 : (wr.alloc (.cells #[.int .i64 x, .int .i64 k, .int .i64 nn, .slice Aa ats.length ca, .slice Ak ks.length ck, .slice Al bl.length cl] 62)).cell? ⟨cb, 0, none⟩ = some (.pointer (some ⟨mb, 0, none⟩)) := cell_behind HV1.out mc0
    by_cases h0 : s1.left = 0
    · have HS := Lib.hid (HT.out.cut_ F.out hbw h0 HV1.out)
      clear hbf hbw
      generalize hal : ats.length = al at *
      generalize hkl : ks.length = kl at *
      generalize hbl : bl.length = bll at *
      go_wp2_with (go_at_call 47; refine HS.out.mono ?_; rintro en w2 ⟨rfl, ⟨f0, f1, f2, ff⟩, hR⟩; have HR := Lib.hid hR; clear hR)
      exact bodyPost_ret (v := zeroV) (by simp [results, Tryz.results29, go_sem, f0, f1, f2]) rfl HR.out
    have hnb := new1 wr (.cells #[.int .i64 x, .int .i64 k, .int .i64 nn, .slice Aa ats.length ca, .slice Ak ks.length ck, .slice Al bl.length cl] 62)
    have HS := Lib.hid ((HT.out.step_ h0 HV1.out).mono fun en w2 hp => (show en = .returned (.bool true) ∧ Stp B mb cb wr w2 ∧ RGo (Bx X (W.heap.size + 1)) B mb cb fv inp fuel.dec s1.dec w2 ∧ w2.cell? ⟨cb, 0, none⟩ = some (.pointer (some ⟨mb, 0, none⟩)) ∧ wr.heap.size < w2.heap.size ∧ w2.cell? ⟨wr.heap.size, 0, none⟩ = some (.int .i64 x) ∧ w2.cell? ⟨wr.heap.size, 1, none⟩ = some (.int .i64 k) ∧ w2.cell? ⟨wr.heap.size, 2, none⟩ = some (.int .i64 nn) ∧ w2.cell? ⟨wr.heap.size, 3, none⟩ = some (.slice Aa ats.length ca) ∧ w2.cell? ⟨wr.heap.size, 4, none⟩ = some (.slice Ak ks.length ck) ∧ w2.cell? ⟨wr.heap.size, 5, none⟩ = some (.slice Al bl.length cl) from by
     obtain ⟨rfl, hst, hg⟩ := hp
     have hsz := (F.out.sz)
     have hsz2 := HT.out.st.kp.size
     have hbb := hst.kp.same _ _ hnb rfl (F.out.no (k := wr.heap.size) (by omega))
     exact ⟨rfl, (Stp.below HV1.out HT.out.go_.hBW).trans hst, hg, hg.c.ptr, (Array.getElem?_eq_some_iff.1 hbb).1, cell_block hbb rfl, cell_block hbb rfl, cell_block hbb rfl, cell_block hbb rfl, cell_block hbb rfl, cell_block hbb rfl⟩))
    have STEP := Lib.hid True.intro
    by_cases hk10 : k = 10
    · subst hk10
      have HG := Lib.hid (fun (V : World) (hst : Stp B mb cb wr V) (hg : RGo (Bx X (W.heap.size + 1)) B mb cb fv inp fuel.dec s1.dec V) => HT.out.group_ F.out hbf h0 hst hg)
      rcases hao : atomsP (groupEnv ks s1.made.length e1) ats with _ | l
      · have HG2 := Lib.hid (fun (V : World) (hst : Stp B mb cb wr V) (hg : RGo (Bx X (W.heap.size + 1)) B mb cb fv inp fuel.dec s1.dec V) => (HG.out V hst hg).mono fun en w' hp => (show ∃ pq, en = .returned (.tuple #[.pointer pq, .bool false]) ∧ w'.cell? ⟨cb, 0, none⟩ = some (.pointer (some ⟨mb, 0, none⟩)) ∧ Calls Tryz.prog 49 #[.pointer (some ⟨mb, 0, none⟩)] w' (TEnd X B mb cb fv inp fuel s o W) from by
         obtain ⟨pq, ⟨-, h2, h3, h4⟩ | ⟨s2, e2, h1, -⟩⟩ := hp
         · exact ⟨pq, h2, h3, h4⟩
         · exact absurd hao h1))
        clear hbf hbw HG hao HB HA STEP hnb
        generalize hal : ats.length = al at *
        generalize hkl : ks.length = kl at *
        generalize hbl : bl.length = bll at *
        go_wp2_with (first
         | (go_at_call 47; refine HS.out.mono ?_; rintro en w2 ⟨rfl, hst, hg, mc, hsw, a0, a1, a2, a3, a4, a5⟩; have HC := Lib.hid (HG2.out w2 hst hg); clear hst hg)
         | (go_at_call 48; refine HC.out.mono ?_; rintro en w3 ⟨pq, rfl, mc3, hs3⟩; have HS3 := Lib.hid hs3; clear hs3)
         | (go_at_call 49; refine HS3.out.mono ?_; rintro e w' ⟨k, n, A, l, d, rfl, ⟨f0, f1, f2, ff⟩, hR⟩; have HR := Lib.hid hR; clear hR))
        exact bodyPost_ret (v := .agg #[.int .i64 k, .int .i64 n, .slice A l d]) (by simp [results, Tryz.results29, go_sem, f0, f1, f2]) rfl HR.out
      · have HG2 := Lib.hid (fun (V : World) (hst : Stp B mb cb wr V) (hg : RGo (Bx X (W.heap.size + 1)) B mb cb fv inp fuel.dec s1.dec V) => (HG.out V hst hg).mono fun en w' hp => (show ∃ pq s2 e2, en = .returned (.tuple #[.pointer pq, .bool true]) ∧ TIn X p B mb cb fv inp fuel s n W V0 t o (i + 1) w' (.pointer pq) (m - 1) s2 e2 from by
         obtain ⟨pq, ⟨h1, -⟩ | ⟨s2, e2, h1, h2, h3⟩⟩ := hp
         · rw [hao] at h1; cases h1
         · exact ⟨pq, s2, e2, h2, h3⟩))
        clear hbf hbw HG hao HB HA STEP hnb
        generalize hal : ats.length = al at *
        generalize hkl : ks.length = kl at *
        generalize hbl : bl.length = bll at *
        go_wp2_with (first
         | (go_at_call 47; refine HS.out.mono ?_; rintro en w2 ⟨rfl, hst, hg, mc, hsw, a0, a1, a2, a3, a4, a5⟩; have HC := Lib.hid (HG2.out w2 hst hg); clear hst hg)
         | (go_at_call 48; refine HC.out.mono ?_; rintro en w3 ⟨pq, s2, e2, rfl, ht3⟩; have HT3 := Lib.hid ht3; clear ht3))
        go_roundw
        case rel => exact ⟨i + 1, m - 1, s2, e2, by omega, by go_num, HT3⟩
        case measure => simp [intOf]; omega
    · have hkb : (k == 10) = false := by simpa using hk10
      by_cases hv : ∃ v s2, sideF p inp (m - 1) k nn ats ks bl e1 s1.dec = (.val v, s2)
      · obtain ⟨v, s2, hv⟩ := hv
        have HG2 := Lib.hid (fun (V : World) (hst : Stp B mb cb wr V) (hg : RGo (Bx X (W.heap.size + 1)) B mb cb fv inp fuel.dec s1.dec V) (a0 : V.cell? ⟨wr.heap.size, 0, none⟩ = some (.int .i64 x)) => (HT.out.side_val F.out hbf hk10 h0 hst hg hv).mono fun en w3 hp => (show ∃ k' n' A' l' d', en = .returned (.agg #[.int .i64 k', .int .i64 n', .slice A' l' d']) ∧
         (w3.alloc (.cells #[.int .i64 k', .int .i64 n', .slice A' l' d'] 46)).cell? ⟨wr.heap.size, 0, none⟩ = some (.int .i64 x) ∧ wr.heap.size < w3.heap.size ∧ (w3.alloc (.cells #[.int .i64 k', .int .i64 n', .slice A' l' d'] 46)).cell? ⟨cb, 0, none⟩ = some (.pointer (some ⟨mb, 0, none⟩)) ∧
         ((w3.alloc (.cells #[.int .i64 k', .int .i64 n', .slice A' l' d'] 46)).cell? ⟨w3.heap.size, 0, none⟩ = some (.int .i64 k') ∧ (w3.alloc (.cells #[.int .i64 k', .int .i64 n', .slice A' l' d'] 46)).cell? ⟨w3.heap.size, 1, none⟩ = some (.int .i64 n') ∧ (w3.alloc (.cells #[.int .i64 k', .int .i64 n', .slice A' l' d'] 46)).cell? ⟨w3.heap.size, 2, none⟩ = some (.slice A' l' d')) ∧
         Calls Tryz.prog 51 #[.pointer (some ⟨mb, 0, none⟩)] (w3.alloc (.cells #[.int .i64 k', .int .i64 n', .slice A' l' d'] 46)) (fun e w => e = .returned (.bool false) ∧ (w3.alloc (.cells #[.int .i64 k', .int .i64 n', .slice A' l' d'] 46)) = w) ∧
         TIn X p B mb cb fv inp fuel s n W V0 t o (i + 1) ((w3.alloc (.cells #[.int .i64 k', .int .i64 n', .slice A' l' d'] 46)).alloc (.cells #[.int .i64 x, .int .i64 k', .int .i64 n', .slice A' l' d', .pointer pe] 109)) (.pointer (some ⟨w3.heap.size + 1, 0, none⟩)) (m - 1) s2 ((x, v) :: e1) from by
         obtain ⟨k', n', A', l', d', rfl, hst2, hoff, hnx⟩ := hp
         have hal := below_al1 w3 (.cells #[.int .i64 k', .int .i64 n', .slice A' l' d'] 46)
         have hnv := new1 w3 (.cells #[.int .i64 k', .int .i64 n', .slice A' l' d'] 46)
         obtain ⟨h1, h2⟩ := hoff _ hal
         have h3 := hnx _ hal
         rw [World.size_alloc] at h3
         have hsz := (F.out.sz)
         have hsz2 := HT.out.st.kp.size
         have a0' := hst2.kp.cell a0 (F.out.no (by omega))
         exact ⟨k', n', A', l', d', rfl, cell_behind hal a0', lt_of_cell a0', h1, ⟨cell_block hnv rfl, cell_block hnv rfl, cell_block hnv rfl⟩, h2, h3⟩))
        clear hbf hbw HB HA STEP hnb hv hk10
        generalize hal : ats.length = al at *
        generalize hkl : ks.length = kl at *
        generalize hbl : bl.length = bll at *
        go_wp2_with (first
         | (go_at_call 47; refine HS.out.mono ?_; rintro en w2 ⟨rfl, hst, hg, mc, hsw, a0, a1, a2, a3, a4, a5⟩; have HC := Lib.hid (HG2.out w2 hst hg a0); clear hst hg)
         | (go_at_call 50; refine HC.out.mono ?_; rintro en w3 ⟨k', n', A', l', d', rfl, x0, x1, x2, ⟨y0, y1, y2⟩, hoff, hnx⟩; have HOF := Lib.hid hoff; have HNX := Lib.hid hnx; clear hoff hnx)
         | (go_at_call 51; refine HOF.out.mono ?_; rintro en w4 ⟨rfl, rfl⟩))
        go_roundw
        case rel => exact ⟨i + 1, m - 1, s2, _, by omega, by go_num, HNX⟩
        case measure => simp [intOf]; omega
      · have HG2 := Lib.hid (fun (V : World) (hst : Stp B mb cb wr V) (hg : RGo (Bx X (W.heap.size + 1)) B mb cb fv inp fuel.dec s1.dec V) => (HT.out.side_off F.out hbf hk10 h0 hst hg (fun v s2 h => hv ⟨v, s2, h⟩)).mono fun en w3 hp => (show ∃ k' n' A' l' d', en = .returned (.agg #[.int .i64 k', .int .i64 n', .slice A' l' d']) ∧
         (w3.alloc (.cells #[.int .i64 k', .int .i64 n', .slice A' l' d'] 46)).cell? ⟨cb, 0, none⟩ = some (.pointer (some ⟨mb, 0, none⟩)) ∧
         Calls Tryz.prog 51 #[.pointer (some ⟨mb, 0, none⟩)] (w3.alloc (.cells #[.int .i64 k', .int .i64 n', .slice A' l' d'] 46)) (fun e w => e = .returned (.bool true) ∧ (w3.alloc (.cells #[.int .i64 k', .int .i64 n', .slice A' l' d'] 46)) = w) ∧
         TVal X B mb cb fv inp fuel s o W 0 0 none 0 0 (w3.alloc (.cells #[.int .i64 k', .int .i64 n', .slice A' l' d'] 46)) from by
         obtain ⟨k', n', A', l', d', rfl, hst2, hoff, hnx⟩ := hp
         have hal := below_al1 w3 (.cells #[.int .i64 k', .int .i64 n', .slice A' l' d'] 46)
         obtain ⟨h1, h2⟩ := hoff _ hal
         exact ⟨k', n', A', l', d', rfl, h1, h2, hnx _ hal⟩))
        clear hbf hbw HB HA STEP hnb hv hk10
        generalize hal : ats.length = al at *
        generalize hkl : ks.length = kl at *
        generalize hbl : bl.length = bll at *
        go_wp2_with (first
         | (go_at_call 47; refine HS.out.mono ?_; rintro en w2 ⟨rfl, hst, hg, mc, hsw, a0, a1, a2, a3, a4, a5⟩; have HC := Lib.hid (HG2.out w2 hst hg); clear hst hg)
         | (go_at_call 50; refine HC.out.mono ?_; rintro en w3 ⟨k', n', A', l', d', rfl, x0, hoff, ⟨f0, f1, f2, ff⟩, hR⟩; have HOF := Lib.hid hoff; have HR := Lib.hid hR; clear hoff hR)
         | (go_at_call 51; refine HOF.out.mono ?_; rintro en w4 ⟨rfl, rfl⟩))
        exact bodyPost_ret (v := zeroV) (by simp [results, Tryz.results29, go_sem, f0, f1, f2]) rfl HR.out
  · have hjl : ¬ (i : Int) < (t.len : Int) := by omega
    have HL := Lib.hid (HT.out.last_ F.out (by omega) _ rfl)
    rcases hat : atomP e1 t.last with _ | v
    · have HL2 := Lib.hid (HL.out.mono fun en w' hp => (show en = .returned (.tuple #[.slice none 0 0, .bool false]) ∧ w'.cell? ⟨cb, 0, none⟩ = some (.pointer (some ⟨mb, 0, none⟩)) ∧ Calls Tryz.prog 49 #[.pointer (some ⟨mb, 0, none⟩)] w' (TEnd X B mb cb fv inp fuel s o W) from by
       obtain ⟨-, ⟨_, _, _, _, _, _, _, _, h1, -⟩ | ⟨-, h2, h3, h4⟩⟩ := hp
       · exact absurd hat h1
       · exact ⟨h2, h3, h4⟩))
      clear HL hat HB HA
      go_wp2_with (first
       | (go_at_call 52; refine HL2.out.mono ?_; rintro en w3 ⟨rfl, mc3, hs3⟩; have HS3 := Lib.hid hs3; clear hs3)
       | (go_at_call 49; refine HS3.out.mono ?_; rintro e w' ⟨k, n, A, l, d, rfl, ⟨f0, f1, f2, ff⟩, hR⟩; have HR := Lib.hid hR; clear hR))
      exact bodyPost_ret (v := .agg #[.int .i64 k, .int .i64 n, .slice A l d]) (by simp [results, Tryz.results29, go_sem, f0, f1, f2]) rfl HR.out
    · have HL2 := Lib.hid (HL.out.mono fun en w' hp => (show ∃ b o' d k' n' A' l' d', en = .returned (.tuple #[.slice (some ⟨b, o', none⟩) 1 d, .bool true]) ∧ w'.cell? ⟨b, o', none⟩ = some (.int .i64 k') ∧ w'.cell? ⟨b, o' + 1, none⟩ = some (.int .i64 n') ∧ w'.cell? ⟨b, o' + 2, none⟩ = some (.slice A' l' d') ∧ TVal X B mb cb fv inp fuel s o W k' n' A' l' d' w' from by
       obtain ⟨-, ⟨b, o', d, k', n', A', l', d', -, h2⟩ | ⟨h1, -⟩⟩ := hp
       · exact ⟨b, o', d, k', n', A', l', d', h2⟩
       · rw [hat] at h1; cases h1))
      clear HL hat HB HA
      go_wp2_with (first
       | (go_at_call 52; refine HL2.out.mono ?_; rintro en w3 ⟨b', o', d, k, n, A, l, d', rfl, y0, y1, y2, ⟨f0, f1, f2, ff⟩, hR⟩; have HR := Lib.hid hR; clear hR))
      exact bodyPost_ret (v := .agg #[.int .i64 k, .int .i64 n, .slice A l d']) (by simp [results, Tryz.results29, go_sem, f0, f1, f2]) rfl HR.out
theorem rbody_ok (hwf : ∀ g ∈ p.funs, WfA p.funs.length g.body ∧ ShortA g.body) : ∀ n, RBodyOk p B mb cb fv inp n := by
 intro n
 induction n using Nat.strongRecOn with
 | ind n ih => exact rterm_step ih hwf
end
end Go.Proofs.YtnobggabjpcbfaaGreat
namespace Go.Proofs.YtnobggabjpcbfaaGreat
open Go.RowKit
end Go.Proofs.YtnobggabjpcbfaaGreat
namespace Go.Proofs.YtnobggabjpcbfaaGreat
open Go.RowKit
end Go.Proofs.YtnobggabjpcbfaaGreat
namespace Go.Proofs.YtnobggabjpcbfaaGreat
open Go.RowKit
section
variable {X Y Y' : Nat → Prop} {B mb cb n : Nat} {p : FlatP} {fv : Value} {inp : List Int} {fuel : FL} {s s1 : FSt} {W W' V0 V w w' : World} {o : FOut}
abbrev mObj (Ai : Option Addr) (n ci : Nat) (f : Int) : Obj := .cells #[.slice Ai n ci, .int .i64 0, .int .i64 f, .int .i64 0, .slice none 0 0, .slice none 0 0, .bool false, .bool false, .bool false, .int .i64 0, .int .i64 0, .slice none 0 0] 48
theorem rbegin_any (Ai : Option Addr) (n ci : Nat) (f : Int) (w : World) : Calls Tryz.prog 28 #[.slice Ai n ci, .int .i64 f] w fun e w' => e = .returned (.pointer (some ⟨w.heap.size, 0, none⟩)) ∧ w.alloc (mObj Ai n ci (fuelOf f : Int)) = w' := by
 have HF := Lib.hid (fuelOf_int f)
 generalize ((fuelOf f : Nat) : Int) = ff at *
 go_enter Tryz.func28, Tryz.ntmps28
 go_wp2_with fail
 all_goals
  go_ret
  refine ⟨rfl, ?_⟩
  have hv := HF.out
  first
   | (obtain rfl : ff = 0 := (by omega); rfl)
   | (obtain rfl : ff = 1000000 := (by omega); rfl)
   | (obtain rfl : ff = f := (by omega); rfl)
theorem RGo.start {W0 W : World} {inp : List Int} {Ai : Option Addr} {ci : Nat} {f : Nat} (hf : f ≤ 1000000) (hi : IntsIn W0.heap.size W0 Ai inp) (hci : inp.length ≤ ci) (hil : inp.length ≤ 4096) (hb : Below W0.heap.size W0 W) (hmb : W0.heap.size ≤ mb) (hcb : W0.heap.size ≤ cb) (hne : mb ≠ cb)
 (hm : W.heap[mb]? = some (.cells #[.slice Ai inp.length ci, .int .i64 0, .int .i64 (f : Int), .int .i64 0, .slice none 0 0, .slice none 0 0, .bool false, .bool false, .bool false, .int .i64 0, .int .i64 0, .slice none 0 0] 48 (0, 0))) (hc : W.heap[cb]? = some (.cells #[.pointer (some ⟨mb, 0, none⟩), fv, .slice none 0 0] 79 (0, 0))) :
 RGo (Own2 mb cb) W0.heap.size mb cb fv inp ⟨f, f⟩ (initF f) W where
 hmb := hmb
 hcb := hcb
 hne := hne
 hX := fun k hk => hk
 m := ⟨Ai, ci, none, 0, none, 0, by rw [hm]; simp [initF], hi.below hb, hci, Nat.le_refl _, Nat.le_refl _, ⟨fun a ha => (by cases ha), .inl rfl⟩, .inl rfl⟩
 c := ⟨none, 0, hc, Nat.le_refl _, .inl rfl⟩
 left := Nat.le_refl _
 fuelB := hf
 limB := Nat.le_refl _
 inpB := hil
 askB := by simp [initF]
 outB := by simp [initF]
 celB := by simp [initF]
 fnsB := by simp [initF]
structure PlayOk (p : FlatP) : Prop where
 wf : ∀ g ∈ p.funs, WfA p.funs.length g.body ∧ ShortA g.body
 wm : WfA p.funs.length p.main
 sm : ShortA p.main
def PlayPost (p : FlatP) (inp : List Int) (f : Int) (w : World) (e : Ending) (w' : World) : Prop :=
 ∃ (mb cb : Nat) (fv : Value) (k n : Int) (A : Option Addr) (l d : Nat), e = .returned (.pointer (some ⟨mb, 0, none⟩)) ∧ w.heap.size ≤ mb ∧ Below w.heap.size w w' ∧ OutIn (Own2 mb cb) w.heap.size mb cb fv inp ⟨fuelOf f, fuelOf f⟩ w' (.int .i64 k) (.int .i64 n) (.slice A l d) (runF p inp f)
theorem rplay_any {w : World} (hok : PlayOk p) {v : Array Value} (hin : FlatIn w.heap.size w p v) {Ai : Option Addr} {ci : Nat} (hi : IntsIn w.heap.size w Ai inp) (hci : inp.length ≤ ci) (hil : inp.length ≤ 4096) (f : Int) :
 Calls Tryz.prog 13 #[.agg v, .slice Ai inp.length ci, .int .i64 f] w (PlayPost p inp f w) := by
 obtain ⟨Af, nf, cf, A1, n1, d1, b1, k1, rfl⟩ := hin.shape
 have hin0 := hin
 obtain ⟨Af', cf', bf, of, m0, m1, m2, hv, hcf, h56, hmain, hA, hfun⟩ := hin0
 simp only [Array.mk.injEq, List.cons.injEq, and_true, Value.slice.injEq] at hv
 obtain ⟨⟨rfl, rfl, rfl⟩, rfl, rfl, rfl⟩ := hv
 have hfv : FunsV w.heap.size w p (.slice Af p.funs.length cf) := ⟨Af, cf, bf, of, rfl, hcf, hA, hfun⟩
 clear h56 hfun hA hcf
 obtain ⟨nf, hnf⟩ : ∃ nf, p.funs.length = nf := ⟨_, rfl⟩
 rw [hnf] at hfv hin ⊢
 have hb0 := below_al1 w (.cells #[.slice Af nf cf, .slice A1 n1 d1, .bool b1, .int .i64 k1] 29)
 have hbx := new1 w (.cells #[.slice Af nf cf, .slice A1 n1 d1, .bool b1, .int .i64 k1] 29)
 generalize hV0 : w.alloc (.cells #[.slice Af nf cf, .slice A1 n1 d1, .bool b1, .int .i64 k1] 29) = V0 at *
 have hs0 : w.heap.size < V0.heap.size := (Array.getElem?_eq_some_iff.1 hbx).1
 have HB := Lib.hid ((rbegin_any Ai inp.length ci f V0.drew).mono fun e w2 hp => (show e = .returned (.pointer (some ⟨V0.heap.size, 0, none⟩)) ∧ w2.cell? ⟨w.heap.size, 0, none⟩ = some (.slice Af nf cf) ∧ w.heap.size < w2.heap.size ∧ ((w2.alloc (.cells #[.pointer (some ⟨V0.heap.size, 0, none⟩), .slice Af nf cf, .slice none 0 0] 79)).cell? ⟨w.heap.size, 1, none⟩ = some (.slice A1 n1 d1) ∧ (w2.alloc (.cells #[.pointer (some ⟨V0.heap.size, 0, none⟩), .slice Af nf cf, .slice none 0 0] 79)).cell? ⟨w.heap.size, 2, none⟩ = some (.bool b1) ∧ (w2.alloc (.cells #[.pointer (some ⟨V0.heap.size, 0, none⟩), .slice Af nf cf, .slice none 0 0] 79)).cell? ⟨w.heap.size, 3, none⟩ = some (.int .i64 k1)) ∧
  Calls Tryz.prog 29 #[.pointer (some ⟨w2.heap.size, 0, none⟩), .agg #[.slice A1 n1 d1, .bool b1, .int .i64 k1], .pointer none] (w2.alloc (.cells #[.pointer (some ⟨V0.heap.size, 0, none⟩), .slice Af nf cf, .slice none 0 0] 79)) (fun en w3 => (∃ k n A l d, en = .returned (.agg #[.int .i64 k, .int .i64 n, .slice A l d])) ∧ w3.cell? ⟨w2.heap.size, 0, none⟩ = some (.pointer (some ⟨V0.heap.size, 0, none⟩)) ∧ PlayPost p inp f w (.returned (.pointer (some ⟨V0.heap.size, 0, none⟩))) w3) from by
  obtain ⟨rfl, rfl⟩ := hp
  have hd : Below V0.heap.size V0 V0.drew := (Below.refl _ _).drew
  have hal := below_al1 V0.drew (mObj Ai inp.length ci (fuelOf f : Int))
  have hnm := new1 V0.drew (mObj Ai inp.length ci (fuelOf f : Int))
  have hsz2 : (V0.drew.alloc (mObj Ai inp.length ci (fuelOf f : Int))).heap.size = V0.heap.size + 1 := by rw [World.size_alloc]; rfl
  generalize V0.drew.alloc (mObj Ai inp.length ci (fuelOf f : Int)) = w2 at *
  have hal2 := below_al1 w2 (.cells #[.pointer (some ⟨V0.heap.size, 0, none⟩), .slice Af nf cf, .slice none 0 0] 79)
  have hnr := new1 w2 (.cells #[.pointer (some ⟨V0.heap.size, 0, none⟩), .slice Af nf cf, .slice none 0 0] 79)
  generalize w2.alloc (.cells #[.pointer (some ⟨V0.heap.size, 0, none⟩), .slice Af nf cf, .slice none 0 0] 79) = w3 at *
  have hb2 : Below V0.heap.size V0 w2 := hd.trans hal
  have hb3 : Below V0.heap.size V0 w3 := hb2.trans (hal2.mono hb2.size)
  have hbw : Below w.heap.size w w3 := hb0.trans (hb3.mono hb0.size)
  have x2 := (hb2.block _ hs0).trans hbx
  have x3 := (hb3.block _ hs0).trans hbx
  have hm3 : w3.heap[V0.heap.size]? = _ := (hal2.block V0.heap.size (by omega)).trans hnm
  have hg : RGo (Own2 V0.heap.size w2.heap.size) w.heap.size V0.heap.size w2.heap.size (.slice Af nf cf) inp ⟨fuelOf f, fuelOf f⟩ (initF (fuelOf f)) w3 := RGo.start (fuelOf_le f) hi hci hil hbw (by omega) (by omega) (by omega) hm3 hnr
  have hsz3 := (Array.getElem?_eq_some_iff.1 hnr).1
  refine ⟨rfl, cell_block x2 rfl, by omega, ⟨cell_block x3 rfl, cell_block x3 rfl, cell_block x3 rfl⟩, ?_⟩
  refine (rbody_ok (p := p) (by exact hok.wf) (fuelOf f + 1) (Own2 V0.heap.size w2.heap.size) ⟨fuelOf f, fuelOf f⟩ (initF (fuelOf f)) w3 p.main _ _ _ [] (.pointer none) hg (fun k hk => by rcases hk with hk | hk <;> omega) (hfv.kept hbw) (fun c hc => by simp [initF] at hc) (hmain.kept hbw) (by exact hok.wm) hok.sm .nil (Nat.lt_succ_self _)).mono fun en w4 hp => ?_
  obtain ⟨hst, -, k, n, A, l, d, rfl, ho⟩ := hp
  have hrun : runF p inp f = evF p.funs inp (fuelOf f + 1) p.main [] (initF (fuelOf f)) := by
   unfold runF
   rw [List.take_of_length_le hil]
  rw [← hrun] at ho
  have hmc : w4.cell? ⟨w2.heap.size, 0, none⟩ = some (.pointer (some ⟨V0.heap.size, 0, none⟩)) := by
   generalize runF p inp f = o at ho
   obtain ⟨r, s'⟩ := o
   cases r with
   | val v => exact ho.1.c.ptr
   | raised v => obtain ⟨y0, y1, y2, g1, -⟩ := ho; exact g1.c.ptr
   | stuck => obtain ⟨md, ho⟩ := ho; exact RIn.c ho |>.ptr
   | cut => exact RIn.c ho |>.ptr
  exact ⟨⟨k, n, A, l, d, rfl⟩, hmc, V0.heap.size, w2.heap.size, _, k, n, A, l, d, rfl, by omega, hbw.trans hst.bel, ho⟩))
 have u0 : V0.cell? ⟨w.heap.size, 0, none⟩ = some (.slice Af nf cf) := cell_block hbx rfl
 clear hin hi hci hil hfv hb0 hbx hmain hok
 generalize inp.length = il at *
 go_enter Tryz.func13, Tryz.ntmps13
 go_wp2_with fail
 go_region_law ((first
  | (go_simp; go_at_call 28; refine HB.out.mono ?_; rintro en w2 ⟨rfl, q0, q1, ⟨y1, y2, y3⟩, hT⟩; have HT := Lib.hid hT; clear hT)))
 all_goals
  go_wp2_with (go_at_call 29; refine HT.out.mono ?_; rintro en w3 ⟨⟨k, n, A, l, d, rfl⟩, hmc, hP⟩; have HP := Lib.hid hP; clear hP)
  go_ret
  exact HP.out
end
end Go.Proofs.YtnobggabjpcbfaaGreat
namespace Go.Proofs.YtnobggabjpcbfaaGreat
open Go.RowKit
end Go.Proofs.YtnobggabjpcbfaaGreat
namespace Go.Proofs.YtnobggabjpcbfaaGreat
open Go.RowKit
mutual
theorem dpN_parts : ∀ t : Anf, 2 * dpN t ≤ partsA t
 | .ret _ => by simp [dpN, partsA]
 | .bind _ _ _ ats ks bl r => by
  have h1 := dpL_parts bl
  have h2 := dpN_parts r
  simp only [dpN, partsA]
  omega
theorem dpL_parts : ∀ l : List Anf, 2 * dpL l ≤ partsLA l + 1
 | [] => by simp [dpL, partsLA]
 | c :: cs => by
  have h1 := dpN_parts c
  have h2 := dpL_parts cs
  simp only [dpL, partsLA]
  omega
end
mutual
theorem short_parts : ∀ t : Anf, partsA t ≤ 3000 → ShortA t
 | .ret a, _ => .ret a
 | .bind x k n ats ks bl r, h => by
  simp only [partsA] at h
  exact .bind (by omega) (by omega) (shortL_parts bl (by omega)) (short_parts r (by omega))
theorem shortL_parts : ∀ l : List Anf, partsLA l ≤ 3000 → ∀ c ∈ l, ShortA c
 | [], _, c, hc => by simp at hc
 | a :: l, h, c, hc => by
  simp only [partsLA] at h
  rcases List.mem_cons.1 hc with hc | hc
  · rw [hc]; exact short_parts a (by omega)
  · exact shortL_parts l (by omega) c hc
end
theorem fewN_partsF : ∀ (l : List FFun) (n : Int), 0 ≤ n → fewN l n < 700 → (∀ g ∈ l, (partsA g.body : Int) < 700) ∧ (szFuns l : Int) < 700
 | [], n, _, _ => ⟨by simp, by simp [szFuns]⟩
 | g :: gs, n, h0, h => by
  have hall := fewN_all (g :: gs) n h
  unfold fewN at h
  split at h
  · have h1 := fewN_ge gs (n + (1 + nodesA g.body (700 - n) 1))
    have h2 := nodesA_all g.body (700 - n) 1 (by omega)
    have h4 := nodesA_ge g.body (700 - n) 1
    have h3 := fewN_partsF gs _ (by omega) h
    refine ⟨fun x hx => ?_, ?_⟩
    · rcases List.mem_cons.1 hx with rfl | hx
      · omega
      · exact h3.1 x hx
    · have h5 : fewN (g :: gs) n < 700 := by unfold fewN; rw [if_pos (by assumption)]; exact h
      omega
  · have h5 : fewN (g :: gs) n = n := by unfold fewN; rw [if_neg (by assumption)]
    omega
theorem few_partsF {p : FlatP} {inp : List Int} (h : fewF p inp = true) : (partsA p.main : Int) < 700 ∧ (∀ g ∈ p.funs, (partsA g.body : Int) < 700) ∧ (szFuns p.funs : Int) < 700 ∧ inp.length ≤ 60 := by
 simp only [fewF, decide_eq_true_eq] at h
 obtain ⟨h, hi⟩ := h
 have h2 := fewN_ge p.funs (nodesA p.main 700 1)
 have h3 := nodesA_all p.main 700 1 (by omega)
 have h4 := nodesA_ge p.main 700 1
 obtain ⟨h5, h6⟩ := fewN_partsF p.funs _ (by omega) h
 exact ⟨by omega, h5, h6, hi⟩
theorem dpF_le_ {m : Nat} : ∀ (l : List FFun) (k : Nat), k ≤ m → (∀ g ∈ l, dpN g.body + 1 ≤ m) → dpF l k ≤ m
 | [], k, h, _ => h
 | g :: gs, k, h, hg => by
  simp only [dpF]
  have := hg g (by simp)
  exact dpF_le_ gs _ (by omega) (fun x hx => hg x (by simp [hx]))
theorem r30_eq {p : FlatP} {inp : List Int} (h : fewF p inp = true) : r30 p = rightC p := by
 obtain ⟨h1, h2, h3, -⟩ := few_partsF h
 have d1 := dpN_parts p.main
 have d2 : ∀ g ∈ p.funs, dpN g.body + 1 ≤ 351 := fun g hg => by
  have := dpN_parts g.body
  have := h2 g hg
  omega
 have t1 := totA_le p.main
 have t2 := totF_le p.funs
 have t3 := szA_parts p.main
 have hd := dpF_le_ (m := 351) p.funs (dpN p.main + 1) (by omega) d2
 have hl : longB (allB p) 0 = false := by
  refine longB_no _ _ (fun a ha => ?_) ?_
  · simp only [allB, List.mem_append, List.mem_map, List.mem_singleton] at ha
    rcases ha with ⟨g, hg, rfl⟩ | rfl
    · have := d2 g hg; omega
    · omega
  · unfold allB
    rw [List.map_append, List.sum_append, totF_sum]
    simp only [List.map_cons, List.map_nil, List.sum_cons, List.sum_nil]
    omega
 have hl' : longB (p.funs.map (·.body) ++ [p.main]) 0 = false := hl
 unfold r30 rightC
 rw [if_neg (show ¬ (65536 < totA p.main + totF p.funs ∨ 400 < dpF p.funs (dpN p.main + 1)) by omega), hl']
 simp
theorem play_ok {p : FlatP} {inp : List Int} (h : fewF p inp = true) (hr : rightC p = 0) : PlayOk p := by
 obtain ⟨h1, h2, h3, -⟩ := few_partsF h
 obtain ⟨w1, w2⟩ := wf_of_rightC hr
 exact ⟨fun g hg => ⟨w1 g hg, short_parts _ (by have := h2 g hg; omega)⟩, w2, short_parts _ (by omega)⟩
end Go.Proofs.YtnobggabjpcbfaaGreat
