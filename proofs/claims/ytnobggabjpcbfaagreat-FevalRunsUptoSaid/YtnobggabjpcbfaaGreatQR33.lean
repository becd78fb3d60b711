/-
 3 texts of this seat in one: FV40 FV41 FV42.
-/
import Derived.Test.YtnobggabjpcbfaaGreatQR32
set_option maxRecDepth 100000
set_option maxHeartbeats 16000000
set_option linter.unusedVariables false
set_option linter.unusedSimpArgs false
namespace Go.Proofs.YtnobggabjpcbfaaGreat
open Go.RowKit
section
variable {X Y : Nat → Prop} {B mb cb n nf nc : Nat} {p : FlatP} {fv : Value} {inp : List Int} {fuel : FL} {s s1 : FSt} {W W' W1 W2 V0 w w' : World} {o : FOut}
theorem rterm_step (hok : ∀ m, m < n → RBodyOk p B mb cb fv inp m) (hwf : ∀ g ∈ p.funs, WfA p.funs.length g.body ∧ ShortA g.body) : RBodyOk p B mb cb fv inp n := by
 intro X fuel s W t g0 g1 g2 e pv h hX hfv hmd hin hwt hsh he hn
 have hin0 := hin
 obtain ⟨A0, c0, b9, o9, hv9, hcl9, h96, -⟩ := hin0
 simp only [Array.mk.injEq, List.cons.injEq, and_true] at hv9
 obtain ⟨rfl, rfl, rfl⟩ := hv9
 obtain ⟨pk, rfl⟩ := he.shape
 obtain ⟨V0, hV0⟩ : ∃ V0, (W.alloc (.cells #[.slice A0 t.len c0, .bool t.last.v, .int .i64 t.last.n] 27)).alloc (.cells #[.int .i64 0, .int .i64 0, .slice none 0 0] 46) = V0 := ⟨_, rfl⟩
 have hb0 : Below W.heap.size W V0 := by rw [← hV0]; exact below_al2 _ _ _
 have hbx1 : V0.heap[W.heap.size + 1]? = some (.cells #[.int .i64 0, .int .i64 0, .slice none 0 0] 46 (0, 0)) := by rw [← hV0]; exact new2 _ _ _
 have hbx0 : V0.heap[W.heap.size]? = some (.cells #[.slice A0 t.len c0, .bool t.last.v, .int .i64 t.last.n] 27 (0, 0)) := by
  rw [← hV0]
  exact ((below_al1 _ _).block W.heap.size (by simp)).trans (new1 _ _)
 obtain ⟨o, ho⟩ : ∃ o, evF p.funs inp n t e s = o := ⟨_, rfl⟩
 rw [ho]
 have hfr : TFr X p B mb cb fv inp fuel s n W V0 t A0 c0 := ⟨h, hX, hfv, hwf, hok, hwt, hsh, hb0, hbx0, hbx1⟩
 have F := Lib.hid hfr
 have HI0 := Lib.hid (show TIn X p B mb cb fv inp fuel s n W V0 t o 0 V0 (.pointer pk) n s e from
  ⟨(RIn.bx h (Nat.le_succ _)).below hb0, Stp.refl _, ⟨Nat.le_refl _, Nat.le_refl _⟩, hmd, (he.bx (Nat.le_succ _)).step (KpX.below hb0) (Nat.le_refl _) (Nat.le_refl _), by rw [Anf.tail_zero]; exact ho.symm, hn, Nat.le_refl _⟩)
 obtain ⟨b, oo, hA, hB⟩ := hfr.bind_ hin
 have HB := Lib.hid hB
 have HA := Lib.hid hA
 have hl64 : t.len * 96 ≤ 140737488351232 := h96
 clear h hX hfv hmd hin hwt hsh he hn hok hwf hb0 hbx0 hbx1 hfr ho hA hB
 go_enter Tryz.func29, Tryz.ntmps29
 go_wp2_with fail
 go_loopw [7, 2] (fun iv ev wr => ∃ (i m : Nat) (s1 : FSt) (e1 : PEnv), i ≤ t.len ∧ iv = .int .i64 (i : Int) ∧ Hid (TIn X p B mb cb fv inp fuel s n W V0 t o i wr ev m s1 e1)) (fun iv _ _ => t.len + 1 - (intOf iv).toNat)
 case atStart => exact ⟨0, n, s, e, by omega, rfl, HI0⟩
 case round =>
  obtain ⟨i, m, s1, e1, hi, rfl, HT⟩ := hrel
  obtain ⟨pe, rfl⟩ := HT.out.env.shape
  obtain ⟨r0, r1, r2, r3⟩ := F.out.cells HT.out.st
  have mc0 := HT.out.go_.c.ptr
  by_cases hlt : i < t.len
  · obtain ⟨x, k, nn, ats, ks, bl, Aa, ca, Ak, ck, Al, cl, hbf⟩ := HB.out i hlt
    have HBF := Lib.hid hbf
    have hbw := hbf wr (F.out.belB HT.out.st)
    have hA0 := HA.out (by omega)
    subst hA0
    have d0 := hbw.c0
    have d1 := hbw.c1
    have d2 := hbw.c2
    have d3 := hbw.c3
    have d4 := hbw.c4
    have d5 := hbw.c5
    have hj0 : (0 : Int) ≤ (i : Int) := by omega
    have hjl : (i : Int) < (t.len : Int) := by omega
    have hwi : IntKind.i64.wrap ((i : Int) + 1) = (i : Int) + 1 := by rw [IntKind.wrap_i64]; omega
    have HV1 := Lib.hid (below_al1 wr (.cells #[.int .i64 x, .int .i64 k, .int .i64 nn, .slice Aa ats.length ca, .slice Ak ks.length ck, .slice Al bl.length cl] 62))
    have mc1 : (wr.alloc (.cells #[.int .i64 x, .int .i64 k, .int .i64 nn, .slice Aa ats.length ca, .slice Ak ks.length ck, .slice Al bl.length cl] 62)).cell? ⟨cb, 0, none⟩ = some (.pointer (some ⟨mb, 0, none⟩)) := cell_behind HV1.out mc0
    by_cases h0 : s1.left = 0
    · have HS := Lib.hid (HT.out.cut_ F.out hbw h0 HV1.out)
      clear hbf hbw
      generalize hal : ats.length = al at *
      generalize hkl : ks.length = kl at *
      generalize hbl : bl.length = bll at *
      go_wp2_with (go_at_call 47; refine HS.out.mono ?_; rintro en w2 ⟨rfl, ⟨f0, f1, f2, ff⟩, hR⟩; have HR := Lib.hid hR; clear hR)
      exact bodyPost_ret (v := zeroV) (by simp [results, Tryz.results29, go_sem, f0, f1, f2]) rfl HR.out
    have hnb := new1 wr (.cells #[.int .i64 x, .int .i64 k, .int .i64 nn, .slice Aa ats.length ca, .slice Ak ks.length ck, .slice Al bl.length cl] 62)
    have HS := Lib.hid ((HT.out.step_ h0 HV1.out).mono fun en w2 hp => (show en = .returned (.bool true) ∧ Stp B mb cb wr w2 ∧ RGo (Bx X (W.heap.size + 1)) B mb cb fv inp fuel.dec s1.dec w2 ∧ w2.cell? ⟨cb, 0, none⟩ = some (.pointer (some ⟨mb, 0, none⟩)) ∧ wr.heap.size < w2.heap.size ∧ w2.cell? ⟨wr.heap.size, 0, none⟩ = some (.int .i64 x) ∧ w2.cell? ⟨wr.heap.size, 1, none⟩ = some (.int .i64 k) ∧ w2.cell? ⟨wr.heap.size, 2, none⟩ = some (.int .i64 nn) ∧ w2.cell? ⟨wr.heap.size, 3, none⟩ = some (.slice Aa ats.length ca) ∧ w2.cell? ⟨wr.heap.size, 4, none⟩ = some (.slice Ak ks.length ck) ∧ w2.cell? ⟨wr.heap.size, 5, none⟩ = some (.slice Al bl.length cl) from by
     obtain ⟨rfl, hst, hg⟩ := hp
     have hsz := (F.out.sz)
     have hsz2 := HT.out.st.kp.size
     have hbb := hst.kp.same _ _ hnb rfl (F.out.no (k := wr.heap.size) (by omega))
     exact ⟨rfl, (Stp.below HV1.out HT.out.go_.hBW).trans hst, hg, hg.c.ptr, (Array.getElem?_eq_some_iff.1 hbb).1, cell_block hbb rfl, cell_block hbb rfl, cell_block hbb rfl, cell_block hbb rfl, cell_block hbb rfl, cell_block hbb rfl⟩))
    have STEP := Lib.hid True.intro
    by_cases hk10 : k = 10
    · subst hk10
      have HG := Lib.hid (fun (V : World) (hst : Stp B mb cb wr V) (hg : RGo (Bx X (W.heap.size + 1)) B mb cb fv inp fuel.dec s1.dec V) => HT.out.group_ F.out hbf h0 hst hg)
      rcases hao : atomsP (groupEnv ks s1.made.length e1) ats with _ | l
      · have HG2 := Lib.hid (fun (V : World) (hst : Stp B mb cb wr V) (hg : RGo (Bx X (W.heap.size + 1)) B mb cb fv inp fuel.dec s1.dec V) => (HG.out V hst hg).mono fun en w' hp => (show ∃ pq, en = .returned (.tuple #[.pointer pq, .bool false]) ∧ w'.cell? ⟨cb, 0, none⟩ = some (.pointer (some ⟨mb, 0, none⟩)) ∧ Calls Tryz.prog 49 #[.pointer (some ⟨mb, 0, none⟩)] w' (TEnd X B mb cb fv inp fuel s o W) from by
         obtain ⟨pq, ⟨-, h2, h3, h4⟩ | ⟨s2, e2, h1, -⟩⟩ := hp
         · exact ⟨pq, h2, h3, h4⟩
         · exact absurd hao h1))
        clear hbf hbw HG hao HB HA STEP hnb
        generalize hal : ats.length = al at *
        generalize hkl : ks.length = kl at *
        generalize hbl : bl.length = bll at *
        go_wp2_with (first
         | (go_at_call 47; refine HS.out.mono ?_; rintro en w2 ⟨rfl, hst, hg, mc, hsw, a0, a1, a2, a3, a4, a5⟩; have HC := Lib.hid (HG2.out w2 hst hg); clear hst hg)
         | (go_at_call 48; refine HC.out.mono ?_; rintro en w3 ⟨pq, rfl, mc3, hs3⟩; have HS3 := Lib.hid hs3; clear hs3)
         | (go_at_call 49; refine HS3.out.mono ?_; rintro e w' ⟨k, n, A, l, d, rfl, ⟨f0, f1, f2, ff⟩, hR⟩; have HR := Lib.hid hR; clear hR))
        exact bodyPost_ret (v := .agg #[.int .i64 k, .int .i64 n, .slice A l d]) (by simp [results, Tryz.results29, go_sem, f0, f1, f2]) rfl HR.out
      · have HG2 := Lib.hid (fun (V : World) (hst : Stp B mb cb wr V) (hg : RGo (Bx X (W.heap.size + 1)) B mb cb fv inp fuel.dec s1.dec V) => (HG.out V hst hg).mono fun en w' hp => (show ∃ pq s2 e2, en = .returned (.tuple #[.pointer pq, .bool true]) ∧ TIn X p B mb cb fv inp fuel s n W V0 t o (i + 1) w' (.pointer pq) (m - 1) s2 e2 from by
         obtain ⟨pq, ⟨h1, -⟩ | ⟨s2, e2, h1, h2, h3⟩⟩ := hp
         · rw [hao] at h1; cases h1
         · exact ⟨pq, s2, e2, h2, h3⟩))
        clear hbf hbw HG hao HB HA STEP hnb
        generalize hal : ats.length = al at *
        generalize hkl : ks.length = kl at *
        generalize hbl : bl.length = bll at *
        go_wp2_with (first
         | (go_at_call 47; refine HS.out.mono ?_; rintro en w2 ⟨rfl, hst, hg, mc, hsw, a0, a1, a2, a3, a4, a5⟩; have HC := Lib.hid (HG2.out w2 hst hg); clear hst hg)
         | (go_at_call 48; refine HC.out.mono ?_; rintro en w3 ⟨pq, s2, e2, rfl, ht3⟩; have HT3 := Lib.hid ht3; clear ht3))
        go_roundw
        case rel => exact ⟨i + 1, m - 1, s2, e2, by omega, by go_num, HT3⟩
        case measure => simp [intOf]; omega
    · have hkb : (k == 10) = false := by simpa using hk10
      by_cases hv : ∃ v s2, sideF p inp (m - 1) k nn ats ks bl e1 s1.dec = (.val v, s2)
      · obtain ⟨v, s2, hv⟩ := hv
        have HG2 := Lib.hid (fun (V : World) (hst : Stp B mb cb wr V) (hg : RGo (Bx X (W.heap.size + 1)) B mb cb fv inp fuel.dec s1.dec V) (a0 : V.cell? ⟨wr.heap.size, 0, none⟩ = some (.int .i64 x)) => (HT.out.side_val F.out hbf hk10 h0 hst hg hv).mono fun en w3 hp => (show ∃ k' n' A' l' d', en = .returned (.agg #[.int .i64 k', .int .i64 n', .slice A' l' d']) ∧
         (w3.alloc (.cells #[.int .i64 k', .int .i64 n', .slice A' l' d'] 46)).cell? ⟨wr.heap.size, 0, none⟩ = some (.int .i64 x) ∧ wr.heap.size < w3.heap.size ∧ (w3.alloc (.cells #[.int .i64 k', .int .i64 n', .slice A' l' d'] 46)).cell? ⟨cb, 0, none⟩ = some (.pointer (some ⟨mb, 0, none⟩)) ∧
         ((w3.alloc (.cells #[.int .i64 k', .int .i64 n', .slice A' l' d'] 46)).cell? ⟨w3.heap.size, 0, none⟩ = some (.int .i64 k') ∧ (w3.alloc (.cells #[.int .i64 k', .int .i64 n', .slice A' l' d'] 46)).cell? ⟨w3.heap.size, 1, none⟩ = some (.int .i64 n') ∧ (w3.alloc (.cells #[.int .i64 k', .int .i64 n', .slice A' l' d'] 46)).cell? ⟨w3.heap.size, 2, none⟩ = some (.slice A' l' d')) ∧
         Calls Tryz.prog 51 #[.pointer (some ⟨mb, 0, none⟩)] (w3.alloc (.cells #[.int .i64 k', .int .i64 n', .slice A' l' d'] 46)) (fun e w => e = .returned (.bool false) ∧ (w3.alloc (.cells #[.int .i64 k', .int .i64 n', .slice A' l' d'] 46)) = w) ∧
         TIn X p B mb cb fv inp fuel s n W V0 t o (i + 1) ((w3.alloc (.cells #[.int .i64 k', .int .i64 n', .slice A' l' d'] 46)).alloc (.cells #[.int .i64 x, .int .i64 k', .int .i64 n', .slice A' l' d', .pointer pe] 109)) (.pointer (some ⟨w3.heap.size + 1, 0, none⟩)) (m - 1) s2 ((x, v) :: e1) from by
         obtain ⟨k', n', A', l', d', rfl, hst2, hoff, hnx⟩ := hp
         have hal := below_al1 w3 (.cells #[.int .i64 k', .int .i64 n', .slice A' l' d'] 46)
         have hnv := new1 w3 (.cells #[.int .i64 k', .int .i64 n', .slice A' l' d'] 46)
         obtain ⟨h1, h2⟩ := hoff _ hal
         have h3 := hnx _ hal
         rw [World.size_alloc] at h3
         have hsz := (F.out.sz)
         have hsz2 := HT.out.st.kp.size
         have a0' := hst2.kp.cell a0 (F.out.no (by omega))
         exact ⟨k', n', A', l', d', rfl, cell_behind hal a0', lt_of_cell a0', h1, ⟨cell_block hnv rfl, cell_block hnv rfl, cell_block hnv rfl⟩, h2, h3⟩))
        clear hbf hbw HB HA STEP hnb hv hk10
        generalize hal : ats.length = al at *
        generalize hkl : ks.length = kl at *
        generalize hbl : bl.length = bll at *
        go_wp2_with (first
         | (go_at_call 47; refine HS.out.mono ?_; rintro en w2 ⟨rfl, hst, hg, mc, hsw, a0, a1, a2, a3, a4, a5⟩; have HC := Lib.hid (HG2.out w2 hst hg a0); clear hst hg)
         | (go_at_call 50; refine HC.out.mono ?_; rintro en w3 ⟨k', n', A', l', d', rfl, x0, x1, x2, ⟨y0, y1, y2⟩, hoff, hnx⟩; have HOF := Lib.hid hoff; have HNX := Lib.hid hnx; clear hoff hnx)
         | (go_at_call 51; refine HOF.out.mono ?_; rintro en w4 ⟨rfl, rfl⟩))
        go_roundw
        case rel => exact ⟨i + 1, m - 1, s2, _, by omega, by go_num, HNX⟩
        case measure => simp [intOf]; omega
      · have HG2 := Lib.hid (fun (V : World) (hst : Stp B mb cb wr V) (hg : RGo (Bx X (W.heap.size + 1)) B mb cb fv inp fuel.dec s1.dec V) => (HT.out.side_off F.out hbf hk10 h0 hst hg (fun v s2 h => hv ⟨v, s2, h⟩)).mono fun en w3 hp => (show ∃ k' n' A' l' d', en = .returned (.agg #[.int .i64 k', .int .i64 n', .slice A' l' d']) ∧
         (w3.alloc (.cells #[.int .i64 k', .int .i64 n', .slice A' l' d'] 46)).cell? ⟨cb, 0, none⟩ = some (.pointer (some ⟨mb, 0, none⟩)) ∧
         Calls Tryz.prog 51 #[.pointer (some ⟨mb, 0, none⟩)] (w3.alloc (.cells #[.int .i64 k', .int .i64 n', .slice A' l' d'] 46)) (fun e w => e = .returned (.bool true) ∧ (w3.alloc (.cells #[.int .i64 k', .int .i64 n', .slice A' l' d'] 46)) = w) ∧
         TVal X B mb cb fv inp fuel s o W 0 0 none 0 0 (w3.alloc (.cells #[.int .i64 k', .int .i64 n', .slice A' l' d'] 46)) from by
         obtain ⟨k', n', A', l', d', rfl, hst2, hoff, hnx⟩ := hp
         have hal := below_al1 w3 (.cells #[.int .i64 k', .int .i64 n', .slice A' l' d'] 46)
         obtain ⟨h1, h2⟩ := hoff _ hal
         exact ⟨k', n', A', l', d', rfl, h1, h2, hnx _ hal⟩))
        clear hbf hbw HB HA STEP hnb hv hk10
        generalize hal : ats.length = al at *
        generalize hkl : ks.length = kl at *
        generalize hbl : bl.length = bll at *
        go_wp2_with (first
         | (go_at_call 47; refine HS.out.mono ?_; rintro en w2 ⟨rfl, hst, hg, mc, hsw, a0, a1, a2, a3, a4, a5⟩; have HC := Lib.hid (HG2.out w2 hst hg); clear hst hg)
         | (go_at_call 50; refine HC.out.mono ?_; rintro en w3 ⟨k', n', A', l', d', rfl, x0, hoff, ⟨f0, f1, f2, ff⟩, hR⟩; have HOF := Lib.hid hoff; have HR := Lib.hid hR; clear hoff hR)
         | (go_at_call 51; refine HOF.out.mono ?_; rintro en w4 ⟨rfl, rfl⟩))
        exact bodyPost_ret (v := zeroV) (by simp [results, Tryz.results29, go_sem, f0, f1, f2]) rfl HR.out
  · have hjl : ¬ (i : Int) < (t.len : Int) := by omega
    have HL := Lib.hid (HT.out.last_ F.out (by omega) _ rfl)
    rcases hat : atomP e1 t.last with _ | v
    · have HL2 := Lib.hid (HL.out.mono fun en w' hp => (show en = .returned (.tuple #[.slice none 0 0, .bool false]) ∧ w'.cell? ⟨cb, 0, none⟩ = some (.pointer (some ⟨mb, 0, none⟩)) ∧ Calls Tryz.prog 49 #[.pointer (some ⟨mb, 0, none⟩)] w' (TEnd X B mb cb fv inp fuel s o W) from by
       obtain ⟨-, ⟨_, _, _, _, _, _, _, _, h1, -⟩ | ⟨-, h2, h3, h4⟩⟩ := hp
       · exact absurd hat h1
       · exact ⟨h2, h3, h4⟩))
      clear HL hat HB HA
      go_wp2_with (first
       | (go_at_call 52; refine HL2.out.mono ?_; rintro en w3 ⟨rfl, mc3, hs3⟩; have HS3 := Lib.hid hs3; clear hs3)
       | (go_at_call 49; refine HS3.out.mono ?_; rintro e w' ⟨k, n, A, l, d, rfl, ⟨f0, f1, f2, ff⟩, hR⟩; have HR := Lib.hid hR; clear hR))
      exact bodyPost_ret (v := .agg #[.int .i64 k, .int .i64 n, .slice A l d]) (by simp [results, Tryz.results29, go_sem, f0, f1, f2]) rfl HR.out
    · have HL2 := Lib.hid (HL.out.mono fun en w' hp => (show ∃ b o' d k' n' A' l' d', en = .returned (.tuple #[.slice (some ⟨b, o', none⟩) 1 d, .bool true]) ∧ w'.cell? ⟨b, o', none⟩ = some (.int .i64 k') ∧ w'.cell? ⟨b, o' + 1, none⟩ = some (.int .i64 n') ∧ w'.cell? ⟨b, o' + 2, none⟩ = some (.slice A' l' d') ∧ TVal X B mb cb fv inp fuel s o W k' n' A' l' d' w' from by
       obtain ⟨-, ⟨b, o', d, k', n', A', l', d', -, h2⟩ | ⟨h1, -⟩⟩ := hp
       · exact ⟨b, o', d, k', n', A', l', d', h2⟩
       · rw [hat] at h1; cases h1))
      clear HL hat HB HA
      go_wp2_with (first
       | (go_at_call 52; refine HL2.out.mono ?_; rintro en w3 ⟨b', o', d, k, n, A, l, d', rfl, y0, y1, y2, ⟨f0, f1, f2, ff⟩, hR⟩; have HR := Lib.hid hR; clear hR))
      exact bodyPost_ret (v := .agg #[.int .i64 k, .int .i64 n, .slice A l d']) (by simp [results, Tryz.results29, go_sem, f0, f1, f2]) rfl HR.out
theorem rbody_ok (hwf : ∀ g ∈ p.funs, WfA p.funs.length g.body ∧ ShortA g.body) : ∀ n, RBodyOk p B mb cb fv inp n := by
 intro n
 induction n using Nat.strongRecOn with
 | ind n ih => exact rterm_step ih hwf
end
end Go.Proofs.YtnobggabjpcbfaaGreat
namespace Go.Proofs.YtnobggabjpcbfaaGreat
open Go.RowKit
section
variable {X Y Y' : Nat → Prop} {B mb cb n : Nat} {fv : Value} {inp : List Int} {fuel : FL} {s s1 : FSt} {cut stk rai : Bool} {x0 x1 x2 : Value} {W W' W1 W2 W3 V0 V w w' : World} {o : FOut}
theorem RIn.endc (h : RIn X B mb cb fv inp fuel s cut stk rai x0 x1 x2 W) : ∃ Ao co, W.cell? ⟨mb, 4, none⟩ = some (.slice Ao s.out.length co) ∧ W.cell? ⟨mb, 3, none⟩ = some (.int .i64 ((fuel.f - s.left : Nat) : Int)) ∧ ∀ V, Below W.heap.size W V → (IntsIn V.heap.size V Ao s.out ∧ s.out.length ≤ co ∧ (∀ a, Ao = some a → B ≤ a.block) ∧ Below W.heap.size W V) := by
 obtain ⟨Ai, ci, Ao, co, Ac, cc, h1, h2, h3, h4, h5, h6, h7⟩ := h.m
 have hl := h.left
 have ho := h.outB
 have hf := h.fuelB
 have hb := h.limB
 have e1 : ((fuel.f - s.left : Nat) : Int) = (fuel.f : Int) - (s.left : Int) := by omega
 refine ⟨Ao, co, cell_block h1 rfl, by rw [e1]; exact cell_block h1 rfl, fun V hV => ⟨⟨by omega, ?_⟩, h4, h6.1, hV⟩⟩
 rcases h6.2 with h0 | ⟨b, o, rfl, hx, hc⟩
 · exact .inl h0
 · rcases Nat.eq_zero_or_pos s.out.length with h0 | h0
   · exact .inl (List.eq_nil_of_length_eq_zero h0)
   · exact .inr ⟨b, o, rfl, Nat.lt_of_lt_of_le (lt_of_cell (hc 0 h0)) hV.size, fun j hj => cell_behind hV (hc j hj)⟩
theorem rend_flag (h : RIn X B mb cb fv inp fuel s cut stk false x0 x1 x2 W) :
 Calls Tryz.prog 22 #[.pointer (some ⟨mb, 0, none⟩)] W (EndIn B W ⟨if cut then 3 else if stk then 4 else 1, 0, s.out, fuel.f - s.left⟩) := by
 obtain ⟨m1, m2, m3, m6, m7, m8, m9, m10, m11, mf, mc⟩ := h.cells
 obtain ⟨Ao, co, u4, u3, HE⟩ := h.endc
 have HE := Lib.hid HE
 have hlt := (own_lt h).1
 clear h m1 m2 m3 m9 m10 m11 mc
 generalize fuel.f - s.left = st at *
 obtain ⟨out, hout⟩ : ∃ out, s.out = out := ⟨_, rfl⟩
 rw [hout] at u4 HE ⊢
 clear hout
 cases cut <;> cases stk
 all_goals
  go_enter Tryz.func22, Tryz.ntmps22
  go_wp2_with fail
  go_region
  all_goals go_wp2_with fail
 all_goals
  refine bodyPost_ret (by simp [results, Tryz.results22, go_sem]) rfl ⟨Ao, co, rfl, ?_⟩
  refine HE.out _ ?_
  first
   | exact (below_al2 W _ _).drew
   | exact below_al2 W _ _
end
end Go.Proofs.YtnobggabjpcbfaaGreat
namespace Go.Proofs.YtnobggabjpcbfaaGreat
open Go.RowKit
noncomputable def endT1 : Code := match Tryz.f22.body with
 | some (.seq _ (.seq _ (.seq c _))) => c
 | _ => .skip
noncomputable def endT2 : Code := match Tryz.f22.body with
 | some (.seq _ (.seq _ (.seq _ c))) => c
 | _ => .skip
section
variable {X Y Y' : Nat → Prop} {B mb cb n : Nat} {fv : Value} {inp : List Int} {fuel : FL} {s s1 : FSt} {cut stk rai : Bool} {x0 x1 x2 : Value} {W W' W1 W2 W3 V0 V w w' : World} {o : FOut}
theorem end_t2 {b0 b1 : Nat} {kd nn : Int} {Ao : Option Addr} {ol co st : Nat} {Post : Ending → World → Prop} (hz : V.heap[b0]? = some (.cells #[.int .i64 0, .int .i64 0, .slice none 0 0, .int .i64 0] 35 (0, 0))) (he : V.heap[b1]? = some (.cells #[.int .i64 kd, .int .i64 nn, .slice Ao ol co, .int .i64 st] 35 (0, 0))) (g6 : V.cell? ⟨mb, 6, none⟩ = some (.bool false)) (g7 : V.cell? ⟨mb, 7, none⟩ = some (.bool false))
 (hP : Post (.returned (.agg #[.int .i64 kd, .int .i64 nn, .slice Ao ol co, .int .i64 st])) ((((V.setCell ⟨b0, 0, none⟩ (.int .i64 kd)).setCell ⟨b0, 1, none⟩ (.int .i64 nn)).setCell ⟨b0, 2, none⟩ (.slice Ao ol co)).setCell ⟨b0, 3, none⟩ (.int .i64 st))) (u1 u4 u5 u6 u7 u8 u9 u10 u11 u12 u13 u14 u15 u16 u17 u18 u19 u20 u21 u22 u23 u24 u25 u26 u27 u28 u29 u30 u31 u32 u33 u34 u35 u36 u37 u38 u39 u40 u41 u42 u43 u44 u45 u46 : Value) :
 endT2.wp Tryz.prog (bodyPost Tryz.prog Tryz.f22 Post) { tmps := #[.pointer (some ⟨mb, 0, none⟩), u1, .pointer (some ⟨b0, 0, none⟩), .pointer (some ⟨b1, 0, none⟩), u4, u5, u6, u7, u8, u9, u10, u11, u12, u13, u14, u15, u16, u17, u18, u19, u20, u21, u22, u23, u24, u25, u26, u27, u28, u29, u30, u31, u32, u33, u34, u35, u36, u37, u38, u39, u40, u41, u42, u43, u44, u45, u46], defers := [] } V := by
 have z0 : V.cell? ⟨b0, 0, none⟩ = some (.int .i64 0) := cell_block hz rfl
 have z1 : V.cell? ⟨b0, 1, none⟩ = some (.int .i64 0) := cell_block hz rfl
 have z2 : V.cell? ⟨b0, 2, none⟩ = some (.slice none 0 0) := cell_block hz rfl
 have z3 : V.cell? ⟨b0, 3, none⟩ = some (.int .i64 0) := cell_block hz rfl
 have zf : ∀ i, V.frozen? ⟨b0, i, none⟩ = false := fun i => by simp [World.frozen?, hz]
 have e0 : V.cell? ⟨b1, 0, none⟩ = some (.int .i64 kd) := cell_block he rfl
 have e1 : V.cell? ⟨b1, 1, none⟩ = some (.int .i64 nn) := cell_block he rfl
 have e2 : V.cell? ⟨b1, 2, none⟩ = some (.slice Ao ol co) := cell_block he rfl
 have e3 : V.cell? ⟨b1, 3, none⟩ = some (.int .i64 st) := cell_block he rfl
 have HP := Lib.hid hP
 clear hz he hP
 obtain ⟨Q, hQ⟩ : ∃ Q, (bodyPost Tryz.prog Tryz.f22 Post) = Q := ⟨_, rfl⟩
 have HQ := Lib.hid hQ
 rw [hQ]
 clear hQ
 unfold endT2 Tryz.f22
 dsimp only
 go_wp2_with fail
 rw [← HQ.out]
 exact bodyPost_ret (v := .agg #[.int .i64 kd, .int .i64 nn, .slice Ao ol co, .int .i64 st]) (by simp [results, Tryz.results22, go_sem, z0, z1, z2, z3]) rfl HP.out
theorem end_pos {b0 b1 : Nat} {k k1 n1 : Int} {A1 Ao : Option Addr} {l1 d1 ol co st : Nat} {Post : Ending → World → Prop} (hk : 0 ≤ k) (he : V.heap[b1]? = some (.cells #[.int .i64 1, .int .i64 0, .slice Ao ol co, .int .i64 st] 35 (0, 0))) (g8 : V.cell? ⟨mb, 8, none⟩ = some (.bool true)) (g9 : V.cell? ⟨mb, 9, none⟩ = some (.int .i64 k1)) (g10 : V.cell? ⟨mb, 10, none⟩ = some (.int .i64 n1)) (g11 : V.cell? ⟨mb, 11, none⟩ = some (.slice A1 l1 d1))
 (hkey : Calls Tryz.prog 41 #[.agg #[.int .i64 k1, .int .i64 n1, .slice A1 l1 d1]] V fun e w' => e = .returned (.tuple #[.int .i64 k, .bool true]) ∧ Below V.heap.size V w')
 (h2 : ∀ w', Below V.heap.size V w' → ∀ (u1 u4 u5 u6 u7 u8 u9 u10 u11 u12 u13 u14 u15 u16 u17 u18 u19 u20 u21 u22 u23 u24 u25 u26 u27 u28 u29 u30 u31 u32 u33 u34 u35 u36 u37 u38 u39 u40 u41 u42 u43 u44 u45 u46 : Value), endT2.wp Tryz.prog (bodyPost Tryz.prog Tryz.f22 Post) { tmps := #[.pointer (some ⟨mb, 0, none⟩), u1, .pointer (some ⟨b0, 0, none⟩), .pointer (some ⟨b1, 0, none⟩), u4, u5, u6, u7, u8, u9, u10, u11, u12, u13, u14, u15, u16, u17, u18, u19, u20, u21, u22, u23, u24, u25, u26, u27, u28, u29, u30, u31, u32, u33, u34, u35, u36, u37, u38, u39, u40, u41, u42, u43, u44, u45, u46], defers := [] } ((w'.setCell ⟨b1, 0, none⟩ (.int .i64 2)).setCell ⟨b1, 1, none⟩ (.int .i64 k))) (u1 u4 u5 u6 u7 u8 u9 u10 u11 u12 u13 u14 u15 u16 u17 u18 u19 u20 u21 u22 u23 u24 u25 u26 u27 u28 u29 u30 u31 u32 u33 u34 u35 u36 u37 u38 u39 u40 u41 u42 u43 u44 u45 u46 : Value) :
 ∀ K : Act → World → Prop, (∀ a w, endT2.wp Tryz.prog (bodyPost Tryz.prog Tryz.f22 Post) a w → K a w) → endT1.wp Tryz.prog (Exit.then K (bodyPost Tryz.prog Tryz.f22 Post)) { tmps := #[.pointer (some ⟨mb, 0, none⟩), u1, .pointer (some ⟨b0, 0, none⟩), .pointer (some ⟨b1, 0, none⟩), u4, u5, u6, u7, u8, u9, u10, u11, u12, u13, u14, u15, u16, u17, u18, u19, u20, u21, u22, u23, u24, u25, u26, u27, u28, u29, u30, u31, u32, u33, u34, u35, u36, u37, u38, u39, u40, u41, u42, u43, u44, u45, u46], defers := [] } V := by
 intro K hK
 have HK0 := Lib.hid hK
 have HKY := Lib.hid hkey
 have H2 := Lib.hid h2
 have HB := Lib.hid (fun (w' : World) (hb : Below V.heap.size V w') => (hb.block b1 (Array.getElem?_eq_some_iff.1 he).1).trans he)
 have hkl : ¬ k < 0 := by omega
 clear hK he hkey h2
 obtain ⟨Q, hQ⟩ : ∃ Q, (bodyPost Tryz.prog Tryz.f22 Post) = Q := ⟨_, rfl⟩
 rw [hQ] at HK0 H2 ⊢
 clear hQ
 unfold endT1 Tryz.f22
 dsimp only
 go_wp2_with (go_at_call 41; refine HKY.out.mono ?_; rintro e w' ⟨rfl, hb⟩; have hh := HB.out w' hb; have HBW := Lib.hid hb; have ef : ∀ i, w'.frozen? ⟨b1, i, none⟩ = false := (fun i => by simp [World.frozen?, hh]); have x0 : w'.cell? ⟨b1, 0, none⟩ = some (.int .i64 1) := cell_block hh rfl; have x1 : w'.cell? ⟨b1, 1, none⟩ = some (.int .i64 0) := cell_block hh rfl; clear hh hb)
 exact HK0.out _ _ (H2.out w' HBW.out _ _ _ _ _ _ _ _ _ _ _ _ _ _ _ _ _ _ _ _ _ _ _ _ _ _ _ _ _ _ _ _ _ _ _ _ _ _ _ _ _ _ _ _)
theorem end_neg {b0 b1 : Nat} {k k1 n1 : Int} {A1 Ao : Option Addr} {l1 d1 ol co st : Nat} {Post : Ending → World → Prop} (hk : k < 0) (he : V.heap[b1]? = some (.cells #[.int .i64 1, .int .i64 0, .slice Ao ol co, .int .i64 st] 35 (0, 0))) (g8 : V.cell? ⟨mb, 8, none⟩ = some (.bool true)) (g9 : V.cell? ⟨mb, 9, none⟩ = some (.int .i64 k1)) (g10 : V.cell? ⟨mb, 10, none⟩ = some (.int .i64 n1)) (g11 : V.cell? ⟨mb, 11, none⟩ = some (.slice A1 l1 d1))
 (hkey : Calls Tryz.prog 41 #[.agg #[.int .i64 k1, .int .i64 n1, .slice A1 l1 d1]] V fun e w' => e = .returned (.tuple #[.int .i64 k, .bool true]) ∧ Below V.heap.size V w')
 (h2 : ∀ w', Below V.heap.size V w' → ∀ (u1 u4 u5 u6 u7 u8 u9 u10 u11 u12 u13 u14 u15 u16 u17 u18 u19 u20 u21 u22 u23 u24 u25 u26 u27 u28 u29 u30 u31 u32 u33 u34 u35 u36 u37 u38 u39 u40 u41 u42 u43 u44 u45 u46 : Value), endT2.wp Tryz.prog (bodyPost Tryz.prog Tryz.f22 Post) { tmps := #[.pointer (some ⟨mb, 0, none⟩), u1, .pointer (some ⟨b0, 0, none⟩), .pointer (some ⟨b1, 0, none⟩), u4, u5, u6, u7, u8, u9, u10, u11, u12, u13, u14, u15, u16, u17, u18, u19, u20, u21, u22, u23, u24, u25, u26, u27, u28, u29, u30, u31, u32, u33, u34, u35, u36, u37, u38, u39, u40, u41, u42, u43, u44, u45, u46], defers := [] } ((((w'.setCell ⟨b1, 0, none⟩ (.int .i64 2)).setCell ⟨b1, 1, none⟩ (.int .i64 k)).setCell ⟨b1, 0, none⟩ (.int .i64 4)).setCell ⟨b1, 1, none⟩ (.int .i64 0))) (u1 u4 u5 u6 u7 u8 u9 u10 u11 u12 u13 u14 u15 u16 u17 u18 u19 u20 u21 u22 u23 u24 u25 u26 u27 u28 u29 u30 u31 u32 u33 u34 u35 u36 u37 u38 u39 u40 u41 u42 u43 u44 u45 u46 : Value) :
 ∀ K : Act → World → Prop, (∀ a w, endT2.wp Tryz.prog (bodyPost Tryz.prog Tryz.f22 Post) a w → K a w) → endT1.wp Tryz.prog (Exit.then K (bodyPost Tryz.prog Tryz.f22 Post)) { tmps := #[.pointer (some ⟨mb, 0, none⟩), u1, .pointer (some ⟨b0, 0, none⟩), .pointer (some ⟨b1, 0, none⟩), u4, u5, u6, u7, u8, u9, u10, u11, u12, u13, u14, u15, u16, u17, u18, u19, u20, u21, u22, u23, u24, u25, u26, u27, u28, u29, u30, u31, u32, u33, u34, u35, u36, u37, u38, u39, u40, u41, u42, u43, u44, u45, u46], defers := [] } V := by
 intro K hK
 have HK0 := Lib.hid hK
 have HKY := Lib.hid hkey
 have H2 := Lib.hid h2
 have HB := Lib.hid (fun (w' : World) (hb : Below V.heap.size V w') => (hb.block b1 (Array.getElem?_eq_some_iff.1 he).1).trans he)
 have hkl : k < 0 := hk
 clear hK he hkey h2
 obtain ⟨Q, hQ⟩ : ∃ Q, (bodyPost Tryz.prog Tryz.f22 Post) = Q := ⟨_, rfl⟩
 rw [hQ] at HK0 H2 ⊢
 clear hQ
 unfold endT1 Tryz.f22
 dsimp only
 go_wp2_with (go_at_call 41; refine HKY.out.mono ?_; rintro e w' ⟨rfl, hb⟩; have hh := HB.out w' hb; have HBW := Lib.hid hb; have ef : ∀ i, w'.frozen? ⟨b1, i, none⟩ = false := (fun i => by simp [World.frozen?, hh]); have x0 : w'.cell? ⟨b1, 0, none⟩ = some (.int .i64 1) := cell_block hh rfl; have x1 : w'.cell? ⟨b1, 1, none⟩ = some (.int .i64 0) := cell_block hh rfl; clear hh hb)
 exact HK0.out _ _ (H2.out w' HBW.out _ _ _ _ _ _ _ _ _ _ _ _ _ _ _ _ _ _ _ _ _ _ _ _ _ _ _ _ _ _ _ _ _ _ _ _ _ _ _ _ _ _ _ _)
theorem rend_raised {v : PV} {k : Int} {y0 y1 y2 : Value} (h : RIn X B mb cb fv inp fuel s false false true y0 y1 y2 W) (hv : VIn X s.made.length s.cells.length W v y0 y1 y2) (hk : keyOf v = some k) :
 Calls Tryz.prog 22 #[.pointer (some ⟨mb, 0, none⟩)] W (EndIn B W (if 0 ≤ k then ⟨2, k, s.out, fuel.f - s.left⟩ else ⟨4, 0, s.out, fuel.f - s.left⟩)) := by
 obtain ⟨m1, m2, m3, m6, m7, m8, m9, m10, m11, mf, mc⟩ := h.cells
 obtain ⟨Ao, co, u4, u3, hE⟩ := h.endc
 have HE := Lib.hid hE
 have hlt := (own_lt h).1
 have HK := Lib.hid (fun (w : World) => (rkey_any hv w).mono fun e w' hp => (show e = .returned (.tuple #[.int .i64 k, .bool true]) ∧ Below w.heap.size w w' from by
  rcases hp with ⟨k', h1, h2⟩ | ⟨h1, _⟩
  · rw [hk] at h1; cases h1; exact h2
  · rw [hk] at h1; cases h1))
 obtain ⟨k1, n1, A1, l1, d1, rfl, rfl, rfl⟩ := hv.shape
 clear h m1 m2 m3 mc hv hk hE
 generalize fuel.f - s.left = st at *
 obtain ⟨out, hout⟩ : ∃ out, s.out = out := ⟨_, rfl⟩
 rw [hout] at u4 HE ⊢
 clear hout
 have HT := Lib.hid (fun (V : World) (hV : ((W.alloc (.cells #[.int .i64 0, .int .i64 0, .slice none 0 0, .int .i64 0] 35)).alloc (.cells #[.int .i64 1, .int .i64 0, .slice Ao out.length co, .int .i64 st] 35)).drew = V) (u1 u4 u5 u6 u7 u8 u9 u10 u11 u12 u13 u14 u15 u16 u17 u18 u19 u20 u21 u22 u23 u24 u25 u26 u27 u28 u29 u30 u31 u32 u33 u34 u35 u36 u37 u38 u39 u40 u41 u42 u43 u44 u45 u46 : Value) =>
  (show ∀ K : Act → World → Prop, (∀ a w, endT2.wp Tryz.prog (bodyPost Tryz.prog Tryz.f22 (EndIn B W (if 0 ≤ k then ⟨2, k, out, st⟩ else ⟨4, 0, out, st⟩))) a w → K a w) → endT1.wp Tryz.prog (Exit.then K (bodyPost Tryz.prog Tryz.f22 (EndIn B W (if 0 ≤ k then ⟨2, k, out, st⟩ else ⟨4, 0, out, st⟩)))) { tmps := #[.pointer (some ⟨mb, 0, none⟩), u1, .pointer (some ⟨W.heap.size, 0, none⟩), .pointer (some ⟨W.heap.size + 1, 0, none⟩), u4, u5, u6, u7, u8, u9, u10, u11, u12, u13, u14, u15, u16, u17, u18, u19, u20, u21, u22, u23, u24, u25, u26, u27, u28, u29, u30, u31, u32, u33, u34, u35, u36, u37, u38, u39, u40, u41, u42, u43, u44, u45, u46], defers := [] } V from by
   have hal := (below_al2 W (.cells #[.int .i64 0, .int .i64 0, .slice none 0 0, .int .i64 0] 35) (.cells #[.int .i64 1, .int .i64 0, .slice Ao out.length co, .int .i64 st] 35)).drew
   have h1 : ((W.alloc (.cells #[.int .i64 0, .int .i64 0, .slice none 0 0, .int .i64 0] 35)).alloc (.cells #[.int .i64 1, .int .i64 0, .slice Ao out.length co, .int .i64 st] 35)).drew.heap[W.heap.size]? = _ := ((below_al1 _ _).block W.heap.size (by simp)).trans (new1 W (.cells #[.int .i64 0, .int .i64 0, .slice none 0 0, .int .i64 0] 35))
   have h2 : ((W.alloc (.cells #[.int .i64 0, .int .i64 0, .slice none 0 0, .int .i64 0] 35)).alloc (.cells #[.int .i64 1, .int .i64 0, .slice Ao out.length co, .int .i64 st] 35)).drew.heap[W.heap.size + 1]? = _ := new2 W _ _
   rw [hV] at hal h1 h2
   have hn1 : mb ≠ W.heap.size + 1 := by omega
   have hn0 : W.heap.size ≠ W.heap.size + 1 := by omega
   have hle1 : W.heap.size ≤ W.heap.size + 1 := by omega
   by_cases hk0 : 0 ≤ k
   · rw [if_pos hk0]
     refine end_pos hk0 h2 (cell_behind hal m8) (cell_behind hal m9) (cell_behind hal m10) (cell_behind hal m11) (HK.out V) (fun w' hb u1 u4 u5 u6 u7 u8 u9 u10 u11 u12 u13 u14 u15 u16 u17 u18 u19 u20 u21 u22 u23 u24 u25 u26 u27 u28 u29 u30 u31 u32 u33 u34 u35 u36 u37 u38 u39 u40 u41 u42 u43 u44 u45 u46 => ?_) _ _ _ _ _ _ _ _ _ _ _ _ _ _ _ _ _ _ _ _ _ _ _ _ _ _ _ _ _ _ _ _ _ _ _ _ _ _ _ _ _ _ _ _
     have hbw := hal.trans (hb.mono hal.size)
     have hw0 := (hb.block W.heap.size (Array.getElem?_eq_some_iff.1 h1).1).trans h1
     have hw1 := (hb.block (W.heap.size + 1) (Array.getElem?_eq_some_iff.1 h2).1).trans h2
     have hs4 := heap_set_self (heap_set_self hw1 0 (.int .i64 2)) 1 (.int .i64 k)
     refine end_t2 ((heap_set_ne hn0 _ _).trans ((heap_set_ne hn0 _ _).trans hw0)) hs4 ((World.cell?_setCell_far _ _ (⟨mb, _, none⟩ : Addr) _ (Ne.symm hn1)).trans ((World.cell?_setCell_far _ _ (⟨mb, _, none⟩ : Addr) _ (Ne.symm hn1)).trans (cell_behind hbw m6))) ((World.cell?_setCell_far _ _ (⟨mb, _, none⟩ : Addr) _ (Ne.symm hn1)).trans ((World.cell?_setCell_far _ _ (⟨mb, _, none⟩ : Addr) _ (Ne.symm hn1)).trans (cell_behind hbw m7))) ⟨Ao, co, rfl, HE.out _ ?_⟩ _ _ _ _ _ _ _ _ _ _ _ _ _ _ _ _ _ _ _ _ _ _ _ _ _ _ _ _ _ _ _ _ _ _ _ _ _ _ _ _ _ _ _ _
     exact (((((hbw.setCell (p := ⟨W.heap.size + 1, 0, none⟩) hle1 _).setCell (p := ⟨W.heap.size + 1, 1, none⟩) hle1 _).setCell (p := ⟨W.heap.size, 0, none⟩) (Nat.le_refl _) _).setCell (p := ⟨W.heap.size, 1, none⟩) (Nat.le_refl _) _).setCell (p := ⟨W.heap.size, 2, none⟩) (Nat.le_refl _) _).setCell (p := ⟨W.heap.size, 3, none⟩) (Nat.le_refl _) _
   · rw [if_neg hk0]
     refine end_neg (by omega) h2 (cell_behind hal m8) (cell_behind hal m9) (cell_behind hal m10) (cell_behind hal m11) (HK.out V) (fun w' hb u1 u4 u5 u6 u7 u8 u9 u10 u11 u12 u13 u14 u15 u16 u17 u18 u19 u20 u21 u22 u23 u24 u25 u26 u27 u28 u29 u30 u31 u32 u33 u34 u35 u36 u37 u38 u39 u40 u41 u42 u43 u44 u45 u46 => ?_) _ _ _ _ _ _ _ _ _ _ _ _ _ _ _ _ _ _ _ _ _ _ _ _ _ _ _ _ _ _ _ _ _ _ _ _ _ _ _ _ _ _ _ _
     have hbw := hal.trans (hb.mono hal.size)
     have hw0 := (hb.block W.heap.size (Array.getElem?_eq_some_iff.1 h1).1).trans h1
     have hw1 := (hb.block (W.heap.size + 1) (Array.getElem?_eq_some_iff.1 h2).1).trans h2
     have hs4 := heap_set_self (heap_set_self (heap_set_self (heap_set_self hw1 0 (.int .i64 2)) 1 (.int .i64 k)) 0 (.int .i64 4)) 1 (.int .i64 0)
     have hf : ∀ (w2 : World) (i : Nat) (x : Value) (q : Nat), (w2.setCell ⟨W.heap.size + 1, i, none⟩ x).cell? ⟨mb, q, none⟩ = w2.cell? ⟨mb, q, none⟩ := fun w2 i x q => World.cell?_setCell_far _ _ (⟨mb, q, none⟩ : Addr) _ (Ne.symm hn1)
     refine end_t2 ((heap_set_ne hn0 _ _).trans ((heap_set_ne hn0 _ _).trans ((heap_set_ne hn0 _ _).trans ((heap_set_ne hn0 _ _).trans hw0)))) hs4 (by rw [hf, hf, hf, hf]; exact cell_behind hbw m6) (by rw [hf, hf, hf, hf]; exact cell_behind hbw m7) ⟨Ao, co, rfl, HE.out _ ?_⟩ _ _ _ _ _ _ _ _ _ _ _ _ _ _ _ _ _ _ _ _ _ _ _ _ _ _ _ _ _ _ _ _ _ _ _ _ _ _ _ _ _ _ _ _
     exact (((((((hbw.setCell (p := ⟨W.heap.size + 1, 0, none⟩) hle1 _).setCell (p := ⟨W.heap.size + 1, 1, none⟩) hle1 _).setCell (p := ⟨W.heap.size + 1, 0, none⟩) hle1 _).setCell (p := ⟨W.heap.size + 1, 1, none⟩) hle1 _).setCell (p := ⟨W.heap.size, 0, none⟩) (Nat.le_refl _) _).setCell (p := ⟨W.heap.size, 1, none⟩) (Nat.le_refl _) _).setCell (p := ⟨W.heap.size, 2, none⟩) (Nat.le_refl _) _).setCell (p := ⟨W.heap.size, 3, none⟩) (Nat.le_refl _) _))
 generalize (if 0 ≤ k then (⟨2, k, out, st⟩ : PEnd) else ⟨4, 0, out, st⟩) = pe at *
 clear m6 m7 m8 m9 m10 m11
 go_enter Tryz.func22, Tryz.ntmps22
 go_wp2_with fail
 go_region
 refine (‹∀ (a : Act) (w : World), Code.wp Tryz.prog _ _ a w → _›) _ _ ?_
 exact wp_seq (HT.out _ rfl _ _ _ _ _ _ _ _ _ _ _ _ _ _ _ _ _ _ _ _ _ _ _ _ _ _ _ _ _ _ _ _ _ _ _ _ _ _ _ _ _ _ _ _ _ (fun a w h => h))
end
end Go.Proofs.YtnobggabjpcbfaaGreat
