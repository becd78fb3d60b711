/-
  3 texts of this seat in one: V38 V39 V43.
-/
import Derived.Test.YtnolhcdfknjncaaDoorQT
import Derived.Test.YtnolhcdfknjncaaDoorQU
/-
  The document's run: a term.
-/
set_option linter.unusedVariables false
set_option linter.unusedSimpArgs false
namespace Go.Proofs.YtnolhcdfknjncaaDoor
open Go.RowKit

theorem evs_len {rec : Core → PEnv → St → Out} {e : PEnv} : ∀ (cs : List Core) (acc : List PV) (s : St) (vs : List PV) (s' : St), evs rec e cs acc s = (.inr vs, s') → vs.length = acc.length + cs.length
  | [], acc, s, vs, s', h => by
    rw [evs] at h
    simp only [Prod.mk.injEq, Sum.inr.injEq] at h
    rw [← h.1]; simp
  | c :: cs, acc, s, vs, s', h => by
    rcases hr : rec c e s with ⟨r, s2⟩
    by_cases hv : ∃ v, r = .val v
    · obtain ⟨v, rfl⟩ := hv
      rw [revs_val hr] at h
      have := evs_len cs (acc ++ [v]) s2 vs s' h
      simp at this ⊢; omega
    · rw [evs_off hr (fun v e => hv ⟨v, e⟩)] at h
      simp at h
section
variable {X Y Y' : Nat → Prop} {B mb cb n : Nat} {inp : List Int} {fuel : FL} {s s1 : St} {W W' V0 V w w' : World} {o : Out} {rec : Core → PEnv → St → Out} {e : PEnv}
theorem rest_app {nn : Int} {ks : List Int} {c0 c1 : Core} : restO (evs rec e [c0, c1] [] s) (fun vs s' => callP rec (vs[0]?.getD default) (vs[1]?.getD default) s') = bodyP inp rec (.mk 4 nn ks [c0, c1]) e s := by
  have h4 : ¬ (4 : Int) = 1 := by decide
  simp only [bodyP, Core.k, Core.cs, if_neg (show ¬ (4 : Int) = 1 by decide), if_neg (show ¬ (4 : Int) = 2 by decide), if_neg (show ¬ (4 : Int) = 3 by decide), if_true, List.getElem?_cons_zero, List.getElem?_cons_succ, Option.getD_some]
  rcases h0 : rec c0 e s with ⟨r, s2⟩
  cases r with
  | val v =>
    rw [revs_val h0]
    simp only [Out.andThen]
    rcases h1 : rec c1 e s2 with ⟨r, s3⟩
    cases r with
    | val v1 => rw [revs_val h1]; rfl
    | raised v1 => rw [evs_off h1 (by simp)]; rfl
    | stuck => rw [evs_off h1 (by simp)]; rfl
    | cut => rw [evs_off h1 (by simp)]; rfl
  | raised v => rw [evs_off h0 (by simp)]; rfl
  | stuck => rw [evs_off h0 (by simp)]; rfl
  | cut => rw [evs_off h0 (by simp)]; rfl
theorem rest_field {nn : Int} {ks : List Int} {c0 : Core} : restO (evs rec e [c0] [] s) (fun vs s' => fieldO (vs[0]?.getD default) nn s') = bodyP inp rec (.mk 8 nn ks [c0]) e s := by
  simp only [bodyP, Core.k, Core.cs, Core.n, if_neg (show ¬ (8 : Int) = 1 by decide), if_neg (show ¬ (8 : Int) = 2 by decide), if_neg (show ¬ (8 : Int) = 3 by decide), if_neg (show ¬ (8 : Int) = 4 by decide), if_neg (show ¬ (8 : Int) = 5 by decide), if_neg (show ¬ (8 : Int) = 6 by decide), if_true, List.getElem?_cons_zero, Option.getD_some]
  rcases h0 : rec c0 e s with ⟨r, s2⟩
  cases r with
  | val v =>
    rw [revs_val h0]
    simp only [Out.andThen]
    rfl
  | raised v => rw [evs_off h0 (by simp)]; rfl
  | stuck => rw [evs_off h0 (by simp)]; rfl
  | cut => rw [evs_off h0 (by simp)]; rfl
theorem rest_block {nn : Int} {ks : List Int} {cs : List Core} : restO (evs rec e cs [] s) (fun vs s' => (.val (.blk nn vs), s')) = bodyP inp rec (.mk 7 nn ks cs) e s := by
  simp only [bodyP, Core.k, Core.cs, Core.n, if_neg (show ¬ (7 : Int) = 1 by decide), if_neg (show ¬ (7 : Int) = 2 by decide), if_neg (show ¬ (7 : Int) = 3 by decide), if_neg (show ¬ (7 : Int) = 4 by decide), if_neg (show ¬ (7 : Int) = 5 by decide), if_neg (show ¬ (7 : Int) = 6 by decide), if_neg (show ¬ (7 : Int) = 8 by decide), if_neg (show ¬ (7 : Int) = 9 by decide), if_true]
  rcases evs rec e cs [] s with ⟨r, s2⟩
  cases r <;> rfl
theorem rest_prim {nn : Int} {ks : List Int} {cs : List Core} : restO (evs rec e cs [] s) (fun vs s' => primP inp rec nn vs s') = bodyP inp rec (.mk 10 nn ks cs) e s := by
  simp only [bodyP, Core.k, Core.cs, Core.n, if_neg (show ¬ (10 : Int) = 1 by decide), if_neg (show ¬ (10 : Int) = 2 by decide), if_neg (show ¬ (10 : Int) = 3 by decide), if_neg (show ¬ (10 : Int) = 4 by decide), if_neg (show ¬ (10 : Int) = 5 by decide), if_neg (show ¬ (10 : Int) = 6 by decide), if_neg (show ¬ (10 : Int) = 7 by decide), if_neg (show ¬ (10 : Int) = 8 by decide), if_neg (show ¬ (10 : Int) = 9 by decide)]
  rcases evs rec e cs [] s with ⟨r, s2⟩
  cases r <;> rfl
theorem try_prim {l0 l1 : PV} : tryO rec l1 (callP rec l0 (.int 0) s) = primP inp rec 16 [l0, l1] s := by
  simp only [primP, if_neg (show ¬ (16 : Int) = 10 by decide), if_neg (show ¬ (16 : Int) = 11 by decide), if_neg (show ¬ (16 : Int) = 12 by decide), if_neg (show ¬ (16 : Int) = 13 by decide), if_neg (show ¬ (16 : Int) = 14 by decide), if_neg (show ¬ (16 : Int) = 15 by decide), if_true, List.getElem?_cons_zero, List.getElem?_cons_succ, Option.getD_some]
  rcases callP rec l0 (.int 0) s with ⟨r, s2⟩
  cases r <;> rfl
theorem let_body {nn : Int} {ks : List Int} {c0 c1 : Core} : letO rec nn c1 e (rec c0 e s) = bodyP inp rec (.mk 5 nn ks [c0, c1]) e s := by
  simp only [bodyP, Core.k, Core.cs, Core.n, if_neg (show ¬ (5 : Int) = 1 by decide), if_neg (show ¬ (5 : Int) = 2 by decide), if_neg (show ¬ (5 : Int) = 3 by decide), if_neg (show ¬ (5 : Int) = 4 by decide), if_true, List.getElem?_cons_zero, List.getElem?_cons_succ, Option.getD_some]
  rcases rec c0 e s with ⟨r, s2⟩
  cases r <;> rfl
theorem sw_body {nn : Int} {ks : List Int} {cs : List Core} : swO rec ks cs e (rec (cs[0]?.getD default) e s) = bodyP inp rec (.mk 9 nn ks cs) e s := by
  simp only [bodyP, Core.k, Core.cs, Core.n, Core.ks, if_neg (show ¬ (9 : Int) = 1 by decide), if_neg (show ¬ (9 : Int) = 2 by decide), if_neg (show ¬ (9 : Int) = 3 by decide), if_neg (show ¬ (9 : Int) = 4 by decide), if_neg (show ¬ (9 : Int) = 5 by decide), if_neg (show ¬ (9 : Int) = 6 by decide), if_neg (show ¬ (9 : Int) = 8 by decide), if_true]
  rcases rec (cs[0]?.getD default) e s with ⟨r, s2⟩
  cases r <;> rfl

theorem rterm_any (B mb cb : Nat) (inp : List Int) : ∀ n, RTermOk B mb cb inp n := by
  intro n
  induction n with
  | zero => intro X fuel s W t g0 g1 g2 g3 e pv h hX hc hs he hn; omega
  | succ n ih =>
    intro X fuel s W t g0 g1 g2 g3 e pv h hX hc hs he hn
    obtain ⟨pq, rfl⟩ := he.shape
    have hcc := hc
    obtain ⟨k, nn, ks, cs, Ak, ck, Ac, cc, b, oo, G0, G1, G2, G3, rfl, hv, hks, hck, hcp, hK⟩ := hc.open_
    simp only [Array.mk.injEq, List.cons.injEq, and_true] at hv
    obtain ⟨rfl, rfl, rfl, rfl⟩ := hv
    by_cases hl : s.left = 0
    · have : ev inp (n + 1) (.mk k nn ks cs) e s = (.cut, s) := by simp [ev, hl]
      rw [this]
      exact rterm_cut h hl pq
    rw [ev_succ hl]
    obtain ⟨hk1, hk2, hnum, hcnt, hkey⟩ := hs.node
    have hsk : ∀ c ∈ cs, SmallT c := fun c hc => hs.kid hc
    have hkl := hs.keys
    simp only [Core.k, Core.n, Core.ks, Core.cs] at hk1 hk2 hnum hcnt hkey hkl
    have hall := h.askB
    have hlim := h.limB
    have hl1 : fuel.lim - 1 + 1 = fuel.lim := by omega
    have hl2 : fuel.dec.lim < fuel.dec.f := by show fuel.lim - 1 < fuel.f; omega
    have hcase : k = 1 ∨ k = 2 ∨ k = 3 ∨ k = 4 ∨ k = 5 ∨ k = 6 ∨ k = 7 ∨ k = 8 ∨ k = 9 ∨ k = 10 := by omega
    have hleft : ∀ (vs : List PV) (s' : St), evs (ev inp n) e cs [] s.dec = (.inr vs, s') → s'.left < n := fun vs s' hev => by
      have h1 := (evs_le (ev_le inp n) e cs [] s.dec).left
      rw [hev] at h1
      have : s'.left ≤ s.left - 1 := h1
      omega
    rcases hcase with rfl | rfl | rfl | rfl | rfl | rfl | rfl | rfl | rfl | rfl
    · refine (rterm_var h hX hcc he hl).mono fun en w' hp => ?_
      have : bodyP inp (ev inp n) (.mk 1 nn ks cs) e s.dec = (match lookup e nn with | some v => (.val v, s.dec) | none => (.stuck, s.dec)) := by simp only [bodyP, Core.k, Core.n, if_true]; cases lookup e nn <;> rfl
      rw [this]; exact hp
    · refine (rterm_int h hX hcc he hl).mono fun en w' hp => ?_
      exact hp
    · simp [cntB, kidsL] at hcnt
      have hcs : 0 < cs.length := by omega
      refine (rterm_fn h hX hcc hK hcs (hsk _ (List.getElem_mem hcs)) he hl).mono fun en w' hp => ?_
      have : bodyP inp (ev inp n) (.mk 3 nn ks cs) e s.dec = (.val (.fn s.fns.length), { s.dec with fns := s.fns ++ [⟨nn, cs[0], e⟩] }) := by simp [bodyP, Core.k, Core.n, Core.cs, hcs]
      rw [this]; exact hp
    · simp [cntB, kidsL] at hcnt
      match cs, hcnt, hcc, hK, hsk, hleft with
      | [c0, c1], _, hcc, hK, hsk, hleft =>
        rw [← rest_app]
        refine rterm_rest ih h hX (.inl rfl) hcc hK hsk he hl hn _ (fun vs s' w A d hev hg hXl hv hd => ?_)
        have h2 := evs_len _ _ _ _ _ hev
        match vs, h2, hv, hev with
        | [a, b'], _, hv, hev => exact (does_app ih hg hXl hv (by simp) (hleft _ _ hev)).mono fun en w' hp => ROut.upd hp hl1 hlim
    · simp [cntB, kidsL] at hcnt
      match cs, hcnt, hcc, hK, hsk with
      | [c0, c1], _, hcc, hK, hsk =>
        rw [← let_body]
        exact rterm_let ih h hX hcc hK (by simp) hsk he hl hn
    · simp only [cntB, if_true, decide_eq_true_eq] at hcnt
      have : bodyP inp (ev inp n) (.mk 6 nn ks cs) e s.dec = ev inp n (cs[cs.length - 1]?.getD default) (fixEnv ks s.fns.length e) { s.dec with fns := s.fns ++ fixFns (fixEnv ks s.fns.length e) ks cs } := by
        simp only [bodyP, Core.k, Core.n, Core.ks, Core.cs, if_neg (show ¬ (6 : Int) = 1 by decide), if_neg (show ¬ (6 : Int) = 2 by decide), if_neg (show ¬ (6 : Int) = 3 by decide), if_neg (show ¬ (6 : Int) = 4 by decide), if_neg (show ¬ (6 : Int) = 5 by decide), if_true]
      rw [this]
      exact rterm_fix ih h hX hcc hK (q := ks.length / 2) hcnt.2.2 hs he hl hn
    · simp only [cntB, if_neg (show ¬ (7 : Int) = 6 by decide), if_neg (show ¬ (7 : Int) = 9 by decide), if_true, decide_eq_true_eq] at hcnt
      rw [← rest_block]
      refine rterm_rest ih h hX (.inr (.inl rfl)) hcc hK hsk he hl hn _ (fun vs s' w A d hev hg hXl hv hd => ?_)
      have h2 := evs_len _ _ _ _ _ hev
      simp only [List.length_nil, Nat.zero_add] at h2
      exact (does_block hg hv hd (by omega)).mono fun en w' hp => ROut.upd hp hl1 hlim
    · simp [cntB, kidsL] at hcnt
      have hnn : 0 ≤ nn := by
        simp only [numE, if_neg (show ¬ (8 : Int) = 10 by decide)] at hnum
        by_cases h0 : 0 ≤ nn ∧ nn ≤ 7
        · exact h0.1
        · exfalso; simp [h0] at hnum
      match cs, hcnt, hcc, hK, hsk, hleft with
      | [c0], _, hcc, hK, hsk, hleft =>
        rw [← rest_field]
        refine rterm_rest ih h hX (.inr (.inr (.inl rfl))) hcc hK hsk he hl hn _ (fun vs s' w A d hev hg hXl hv hd => ?_)
        have h2 := evs_len _ _ _ _ _ hev
        match vs, h2, hv, hev with
        | [a], _, hv, hev => exact (does_field hg hnn hv (by simp)).mono fun en w' hp => ROut.upd hp hl1 hlim
    · simp only [cntB, if_neg (show ¬ (9 : Int) = 6 by decide), if_true, decide_eq_true_eq] at hcnt
      rw [← sw_body]
      exact rterm_switch ih h hX hcc hks hK hcnt hkl hsk he hl hn
    · simp only [cntB, if_neg (show ¬ (10 : Int) = 6 by decide), if_neg (show ¬ (10 : Int) = 9 by decide), if_neg (show ¬ (10 : Int) = 7 by decide), if_true, decide_eq_true_eq] at hcnt
      have hp : 1 ≤ nn ∧ nn ≤ 16 := by
        by_cases h0 : 1 ≤ nn ∧ nn ≤ 16
        · exact h0
        · exfalso; simp [numE, h0] at hnum
      rw [← rest_prim]
      refine rterm_rest ih h hX (.inr (.inr (.inr rfl))) hcc hK hsk he hl hn _ (fun vs s' w A d hev hg hXl hv hd => ?_)
      have h2 := evs_len _ _ _ _ _ hev
      simp only [List.length_nil, Nat.zero_add] at h2
      rw [hcnt.2] at h2
      by_cases h16 : nn = 16
      · subst h16
        have h3 : vs.length = 2 := by rw [h2]; decide
        match vs, h3, hv, hev with
        | [a, b'], _, hv, hev =>
          refine (does_try ih hg hXl hv (by simp) (hleft _ _ hev)).mono fun en w' hp => ?_
          rw [← try_prim]
          exact ROut.upd hp hl1 hlim
      · exact (does_prim hg hl2 hXl _ hp.1 (by omega) hv h2).mono fun en w' hp => ROut.updu hp hl1
end
end Go.Proofs.YtnolhcdfknjncaaDoor

/-
  The document's run: its end.
-/
set_option linter.unusedVariables false
set_option linter.unusedSimpArgs false
namespace Go.Proofs.YtnolhcdfknjncaaDoor
open Go.RowKit

section
variable {X Y Y' : Nat → Prop} {B mb cb n : Nat} {inp : List Int} {fuel : FL} {s s1 : St} {cut stk rai : Bool} {x0 x1 x2 : Value} {W W' W1 W2 W3 V0 V w w' : World} {o : Out}
theorem RIn.endc (h : RIn X B mb cb inp fuel s cut stk rai x0 x1 x2 W) : ∃ Ao co, W.cell? ⟨mb, 4, none⟩ = some (.slice Ao s.out.length co) ∧ W.cell? ⟨mb, 3, none⟩ = some (.int .i64 ((fuel.f - s.left : Nat) : Int)) ∧ ∀ V, Below W.heap.size W V → (IntsIn V.heap.size V Ao s.out ∧ s.out.length ≤ co ∧ (∀ a, Ao = some a → B ≤ a.block) ∧ Below W.heap.size W V) := by
  obtain ⟨Ai, ci, Ao, co, Ac, cc, h1, h2, h3, h4, h5, h6, h7⟩ := h.m
  have hl := h.left
  have ho := h.outB
  have hf := h.fuelB
  have hb := h.limB
  have e1 : ((fuel.f - s.left : Nat) : Int) = (fuel.f : Int) - (s.left : Int) := by omega
  refine ⟨Ao, co, cell_block h1 rfl, by rw [e1]; exact cell_block h1 rfl, fun V hV => ⟨⟨by omega, ?_⟩, h4, h6.1, hV⟩⟩
  rcases h6.2 with h0 | ⟨b, o, rfl, hx, hc⟩
  · exact .inl h0
  · rcases Nat.eq_zero_or_pos s.out.length with h0 | h0
    · exact .inl (List.eq_nil_of_length_eq_zero h0)
    · exact .inr ⟨b, o, rfl, Nat.lt_of_lt_of_le (lt_of_cell (hc 0 h0)) hV.size, fun j hj => cell_behind hV (hc j hj)⟩
set_option maxRecDepth 100000 in
set_option maxHeartbeats 4000000 in
theorem rend_flag (h : RIn X B mb cb inp fuel s cut stk false x0 x1 x2 W) :
    Calls Tryd.prog 29 #[.pointer (some ⟨mb, 0, none⟩)] W (EndIn B W ⟨if cut then 3 else if stk then 4 else 1, 0, s.out, fuel.f - s.left⟩) := by
  obtain ⟨m1, m2, m3, m6, m7, m8, m9, m10, m11, mf, mc⟩ := h.cells
  obtain ⟨Ao, co, u4, u3, HE⟩ := h.endc
  have HE := Lib.hid HE
  have hlt := (own_lt h).1
  clear h m1 m2 m3 m9 m10 m11 mc
  generalize fuel.f - s.left = st at *
  obtain ⟨out, hout⟩ : ∃ out, s.out = out := ⟨_, rfl⟩
  rw [hout] at u4 HE ⊢
  clear hout
  cases cut <;> cases stk
  all_goals
    go_enter Tryd.func29, Tryd.ntmps29
    go_wp2_with fail
    go_region
    all_goals go_wp2_with fail
  all_goals
    refine bodyPost_ret (by simp [results, Tryd.results29, go_sem]) rfl ⟨Ao, co, rfl, ?_⟩
    refine HE.out _ ?_
    first
      | exact (below_al2 W _ _).drew
      | exact below_al2 W _ _
end
end Go.Proofs.YtnolhcdfknjncaaDoor

/-
  The document's run: its end, when something was raised.
-/
set_option linter.unusedVariables false
set_option linter.unusedSimpArgs false
namespace Go.Proofs.YtnolhcdfknjncaaDoor
open Go.RowKit

noncomputable def endT1 : Code := match Tryd.f29.body with
  | some (.seq _ (.seq _ (.seq c _))) => c
  | _ => .skip
noncomputable def endT2 : Code := match Tryd.f29.body with
  | some (.seq _ (.seq _ (.seq _ c))) => c
  | _ => .skip
section
variable {X Y Y' : Nat → Prop} {B mb cb n : Nat} {inp : List Int} {fuel : FL} {s s1 : St} {cut stk rai : Bool} {x0 x1 x2 : Value} {W W' W1 W2 W3 V0 V w w' : World} {o : Out}
set_option maxRecDepth 100000 in
set_option maxHeartbeats 4000000 in
theorem end_t2 {b0 b1 : Nat} {kd nn : Int} {Ao : Option Addr} {ol co st : Nat} {Post : Ending → World → Prop} (hz : V.heap[b0]? = some (.cells #[.int .i64 0, .int .i64 0, .slice none 0 0, .int .i64 0] 31 (0, 0))) (he : V.heap[b1]? = some (.cells #[.int .i64 kd, .int .i64 nn, .slice Ao ol co, .int .i64 st] 31 (0, 0))) (g6 : V.cell? ⟨mb, 6, none⟩ = some (.bool false)) (g7 : V.cell? ⟨mb, 7, none⟩ = some (.bool false))
    (hP : Post (.returned (.agg #[.int .i64 kd, .int .i64 nn, .slice Ao ol co, .int .i64 st])) ((((V.setCell ⟨b0, 0, none⟩ (.int .i64 kd)).setCell ⟨b0, 1, none⟩ (.int .i64 nn)).setCell ⟨b0, 2, none⟩ (.slice Ao ol co)).setCell ⟨b0, 3, none⟩ (.int .i64 st))) (u1 u4 u5 u6 u7 u8 u9 u10 u11 u12 u13 u14 u15 u16 u17 u18 u19 u20 u21 u22 u23 u24 u25 u26 u27 u28 u29 u30 u31 u32 u33 u34 u35 u36 u37 u38 u39 u40 u41 u42 u43 u44 u45 u46 : Value) :
    endT2.wp Tryd.prog (bodyPost Tryd.prog Tryd.f29 Post) { tmps := #[.pointer (some ⟨mb, 0, none⟩), u1, .pointer (some ⟨b0, 0, none⟩), .pointer (some ⟨b1, 0, none⟩), u4, u5, u6, u7, u8, u9, u10, u11, u12, u13, u14, u15, u16, u17, u18, u19, u20, u21, u22, u23, u24, u25, u26, u27, u28, u29, u30, u31, u32, u33, u34, u35, u36, u37, u38, u39, u40, u41, u42, u43, u44, u45, u46], defers := [] } V := by
  have z0 : V.cell? ⟨b0, 0, none⟩ = some (.int .i64 0) := cell_block hz rfl
  have z1 : V.cell? ⟨b0, 1, none⟩ = some (.int .i64 0) := cell_block hz rfl
  have z2 : V.cell? ⟨b0, 2, none⟩ = some (.slice none 0 0) := cell_block hz rfl
  have z3 : V.cell? ⟨b0, 3, none⟩ = some (.int .i64 0) := cell_block hz rfl
  have zf : ∀ i, V.frozen? ⟨b0, i, none⟩ = false := fun i => by simp [World.frozen?, hz]
  have e0 : V.cell? ⟨b1, 0, none⟩ = some (.int .i64 kd) := cell_block he rfl
  have e1 : V.cell? ⟨b1, 1, none⟩ = some (.int .i64 nn) := cell_block he rfl
  have e2 : V.cell? ⟨b1, 2, none⟩ = some (.slice Ao ol co) := cell_block he rfl
  have e3 : V.cell? ⟨b1, 3, none⟩ = some (.int .i64 st) := cell_block he rfl
  have HP := Lib.hid hP
  clear hz he hP
  obtain ⟨Q, hQ⟩ : ∃ Q, (bodyPost Tryd.prog Tryd.f29 Post) = Q := ⟨_, rfl⟩
  have HQ := Lib.hid hQ
  rw [hQ]
  clear hQ
  unfold endT2 Tryd.f29
  dsimp only
  go_wp2_with fail
  rw [← HQ.out]
  exact bodyPost_ret (v := .agg #[.int .i64 kd, .int .i64 nn, .slice Ao ol co, .int .i64 st]) (by simp [results, Tryd.results29, go_sem, z0, z1, z2, z3]) rfl HP.out
set_option maxRecDepth 100000 in
set_option maxHeartbeats 4000000 in
theorem end_pos {b0 b1 : Nat} {k k1 n1 : Int} {A1 Ao : Option Addr} {l1 d1 ol co st : Nat} {Post : Ending → World → Prop} (hk : 0 ≤ k) (he : V.heap[b1]? = some (.cells #[.int .i64 1, .int .i64 0, .slice Ao ol co, .int .i64 st] 31 (0, 0))) (g8 : V.cell? ⟨mb, 8, none⟩ = some (.bool true)) (g9 : V.cell? ⟨mb, 9, none⟩ = some (.int .i64 k1)) (g10 : V.cell? ⟨mb, 10, none⟩ = some (.int .i64 n1)) (g11 : V.cell? ⟨mb, 11, none⟩ = some (.slice A1 l1 d1))
    (hkey : Calls Tryd.prog 51 #[.agg #[.int .i64 k1, .int .i64 n1, .slice A1 l1 d1]] V fun e w' => e = .returned (.tuple #[.int .i64 k, .bool true]) ∧ Below V.heap.size V w')
    (h2 : ∀ w', Below V.heap.size V w' → ∀ (u1 u4 u5 u6 u7 u8 u9 u10 u11 u12 u13 u14 u15 u16 u17 u18 u19 u20 u21 u22 u23 u24 u25 u26 u27 u28 u29 u30 u31 u32 u33 u34 u35 u36 u37 u38 u39 u40 u41 u42 u43 u44 u45 u46 : Value), endT2.wp Tryd.prog (bodyPost Tryd.prog Tryd.f29 Post) { tmps := #[.pointer (some ⟨mb, 0, none⟩), u1, .pointer (some ⟨b0, 0, none⟩), .pointer (some ⟨b1, 0, none⟩), u4, u5, u6, u7, u8, u9, u10, u11, u12, u13, u14, u15, u16, u17, u18, u19, u20, u21, u22, u23, u24, u25, u26, u27, u28, u29, u30, u31, u32, u33, u34, u35, u36, u37, u38, u39, u40, u41, u42, u43, u44, u45, u46], defers := [] } ((w'.setCell ⟨b1, 0, none⟩ (.int .i64 2)).setCell ⟨b1, 1, none⟩ (.int .i64 k))) (u1 u4 u5 u6 u7 u8 u9 u10 u11 u12 u13 u14 u15 u16 u17 u18 u19 u20 u21 u22 u23 u24 u25 u26 u27 u28 u29 u30 u31 u32 u33 u34 u35 u36 u37 u38 u39 u40 u41 u42 u43 u44 u45 u46 : Value) :
    ∀ K : Act → World → Prop, (∀ a w, endT2.wp Tryd.prog (bodyPost Tryd.prog Tryd.f29 Post) a w → K a w) → endT1.wp Tryd.prog (Exit.then K (bodyPost Tryd.prog Tryd.f29 Post)) { tmps := #[.pointer (some ⟨mb, 0, none⟩), u1, .pointer (some ⟨b0, 0, none⟩), .pointer (some ⟨b1, 0, none⟩), u4, u5, u6, u7, u8, u9, u10, u11, u12, u13, u14, u15, u16, u17, u18, u19, u20, u21, u22, u23, u24, u25, u26, u27, u28, u29, u30, u31, u32, u33, u34, u35, u36, u37, u38, u39, u40, u41, u42, u43, u44, u45, u46], defers := [] } V := by
  intro K hK
  have HK0 := Lib.hid hK
  have HKY := Lib.hid hkey
  have H2 := Lib.hid h2
  have HB := Lib.hid (fun (w' : World) (hb : Below V.heap.size V w') => (hb.block b1 (Array.getElem?_eq_some_iff.1 he).1).trans he)
  have hkl : ¬ k < 0 := by omega
  clear hK he hkey h2
  obtain ⟨Q, hQ⟩ : ∃ Q, (bodyPost Tryd.prog Tryd.f29 Post) = Q := ⟨_, rfl⟩
  rw [hQ] at HK0 H2 ⊢
  clear hQ
  unfold endT1 Tryd.f29
  dsimp only
  go_wp2_with (go_at_call 51; refine HKY.out.mono ?_; rintro e w' ⟨rfl, hb⟩; have hh := HB.out w' hb; have HBW := Lib.hid hb; have ef : ∀ i, w'.frozen? ⟨b1, i, none⟩ = false := (fun i => by simp [World.frozen?, hh]); have x0 : w'.cell? ⟨b1, 0, none⟩ = some (.int .i64 1) := cell_block hh rfl; have x1 : w'.cell? ⟨b1, 1, none⟩ = some (.int .i64 0) := cell_block hh rfl; clear hh hb)
  exact HK0.out _ _ (H2.out w' HBW.out _ _ _ _ _ _ _ _ _ _ _ _ _ _ _ _ _ _ _ _ _ _ _ _ _ _ _ _ _ _ _ _ _ _ _ _ _ _ _ _ _ _ _ _)
set_option maxRecDepth 100000 in
set_option maxHeartbeats 4000000 in
theorem end_neg {b0 b1 : Nat} {k k1 n1 : Int} {A1 Ao : Option Addr} {l1 d1 ol co st : Nat} {Post : Ending → World → Prop} (hk : k < 0) (he : V.heap[b1]? = some (.cells #[.int .i64 1, .int .i64 0, .slice Ao ol co, .int .i64 st] 31 (0, 0))) (g8 : V.cell? ⟨mb, 8, none⟩ = some (.bool true)) (g9 : V.cell? ⟨mb, 9, none⟩ = some (.int .i64 k1)) (g10 : V.cell? ⟨mb, 10, none⟩ = some (.int .i64 n1)) (g11 : V.cell? ⟨mb, 11, none⟩ = some (.slice A1 l1 d1))
    (hkey : Calls Tryd.prog 51 #[.agg #[.int .i64 k1, .int .i64 n1, .slice A1 l1 d1]] V fun e w' => e = .returned (.tuple #[.int .i64 k, .bool true]) ∧ Below V.heap.size V w')
    (h2 : ∀ w', Below V.heap.size V w' → ∀ (u1 u4 u5 u6 u7 u8 u9 u10 u11 u12 u13 u14 u15 u16 u17 u18 u19 u20 u21 u22 u23 u24 u25 u26 u27 u28 u29 u30 u31 u32 u33 u34 u35 u36 u37 u38 u39 u40 u41 u42 u43 u44 u45 u46 : Value), endT2.wp Tryd.prog (bodyPost Tryd.prog Tryd.f29 Post) { tmps := #[.pointer (some ⟨mb, 0, none⟩), u1, .pointer (some ⟨b0, 0, none⟩), .pointer (some ⟨b1, 0, none⟩), u4, u5, u6, u7, u8, u9, u10, u11, u12, u13, u14, u15, u16, u17, u18, u19, u20, u21, u22, u23, u24, u25, u26, u27, u28, u29, u30, u31, u32, u33, u34, u35, u36, u37, u38, u39, u40, u41, u42, u43, u44, u45, u46], defers := [] } ((((w'.setCell ⟨b1, 0, none⟩ (.int .i64 2)).setCell ⟨b1, 1, none⟩ (.int .i64 k)).setCell ⟨b1, 0, none⟩ (.int .i64 4)).setCell ⟨b1, 1, none⟩ (.int .i64 0))) (u1 u4 u5 u6 u7 u8 u9 u10 u11 u12 u13 u14 u15 u16 u17 u18 u19 u20 u21 u22 u23 u24 u25 u26 u27 u28 u29 u30 u31 u32 u33 u34 u35 u36 u37 u38 u39 u40 u41 u42 u43 u44 u45 u46 : Value) :
    ∀ K : Act → World → Prop, (∀ a w, endT2.wp Tryd.prog (bodyPost Tryd.prog Tryd.f29 Post) a w → K a w) → endT1.wp Tryd.prog (Exit.then K (bodyPost Tryd.prog Tryd.f29 Post)) { tmps := #[.pointer (some ⟨mb, 0, none⟩), u1, .pointer (some ⟨b0, 0, none⟩), .pointer (some ⟨b1, 0, none⟩), u4, u5, u6, u7, u8, u9, u10, u11, u12, u13, u14, u15, u16, u17, u18, u19, u20, u21, u22, u23, u24, u25, u26, u27, u28, u29, u30, u31, u32, u33, u34, u35, u36, u37, u38, u39, u40, u41, u42, u43, u44, u45, u46], defers := [] } V := by
  intro K hK
  have HK0 := Lib.hid hK
  have HKY := Lib.hid hkey
  have H2 := Lib.hid h2
  have HB := Lib.hid (fun (w' : World) (hb : Below V.heap.size V w') => (hb.block b1 (Array.getElem?_eq_some_iff.1 he).1).trans he)
  have hkl : k < 0 := hk
  clear hK he hkey h2
  obtain ⟨Q, hQ⟩ : ∃ Q, (bodyPost Tryd.prog Tryd.f29 Post) = Q := ⟨_, rfl⟩
  rw [hQ] at HK0 H2 ⊢
  clear hQ
  unfold endT1 Tryd.f29
  dsimp only
  go_wp2_with (go_at_call 51; refine HKY.out.mono ?_; rintro e w' ⟨rfl, hb⟩; have hh := HB.out w' hb; have HBW := Lib.hid hb; have ef : ∀ i, w'.frozen? ⟨b1, i, none⟩ = false := (fun i => by simp [World.frozen?, hh]); have x0 : w'.cell? ⟨b1, 0, none⟩ = some (.int .i64 1) := cell_block hh rfl; have x1 : w'.cell? ⟨b1, 1, none⟩ = some (.int .i64 0) := cell_block hh rfl; clear hh hb)
  exact HK0.out _ _ (H2.out w' HBW.out _ _ _ _ _ _ _ _ _ _ _ _ _ _ _ _ _ _ _ _ _ _ _ _ _ _ _ _ _ _ _ _ _ _ _ _ _ _ _ _ _ _ _ _)
set_option maxRecDepth 100000 in
set_option maxHeartbeats 4000000 in
theorem rend_raised {v : PV} {k : Int} {y0 y1 y2 : Value} (h : RIn X B mb cb inp fuel s false false true y0 y1 y2 W) (hv : VIn X s.fns.length s.cells.length W v y0 y1 y2) (hk : keyOf v = some k) :
    Calls Tryd.prog 29 #[.pointer (some ⟨mb, 0, none⟩)] W (EndIn B W (if 0 ≤ k then ⟨2, k, s.out, fuel.f - s.left⟩ else ⟨4, 0, s.out, fuel.f - s.left⟩)) := by
  obtain ⟨m1, m2, m3, m6, m7, m8, m9, m10, m11, mf, mc⟩ := h.cells
  obtain ⟨Ao, co, u4, u3, hE⟩ := h.endc
  have HE := Lib.hid hE
  have hlt := (own_lt h).1
  have HK := Lib.hid (fun (w : World) => (rkey_any hv w).mono fun e w' hp => (show e = .returned (.tuple #[.int .i64 k, .bool true]) ∧ Below w.heap.size w w' from by
    rcases hp with ⟨k', h1, h2⟩ | ⟨h1, _⟩
    · rw [hk] at h1; cases h1; exact h2
    · rw [hk] at h1; cases h1))
  obtain ⟨k1, n1, A1, l1, d1, rfl, rfl, rfl⟩ := hv.shape
  clear h m1 m2 m3 mc hv hk hE
  generalize fuel.f - s.left = st at *
  obtain ⟨out, hout⟩ : ∃ out, s.out = out := ⟨_, rfl⟩
  rw [hout] at u4 HE ⊢
  clear hout
  have HT := Lib.hid (fun (V : World) (hV : ((W.alloc (.cells #[.int .i64 0, .int .i64 0, .slice none 0 0, .int .i64 0] 31)).alloc (.cells #[.int .i64 1, .int .i64 0, .slice Ao out.length co, .int .i64 st] 31)).drew = V) (u1 u4 u5 u6 u7 u8 u9 u10 u11 u12 u13 u14 u15 u16 u17 u18 u19 u20 u21 u22 u23 u24 u25 u26 u27 u28 u29 u30 u31 u32 u33 u34 u35 u36 u37 u38 u39 u40 u41 u42 u43 u44 u45 u46 : Value) =>
    (show ∀ K : Act → World → Prop, (∀ a w, endT2.wp Tryd.prog (bodyPost Tryd.prog Tryd.f29 (EndIn B W (if 0 ≤ k then ⟨2, k, out, st⟩ else ⟨4, 0, out, st⟩))) a w → K a w) → endT1.wp Tryd.prog (Exit.then K (bodyPost Tryd.prog Tryd.f29 (EndIn B W (if 0 ≤ k then ⟨2, k, out, st⟩ else ⟨4, 0, out, st⟩)))) { tmps := #[.pointer (some ⟨mb, 0, none⟩), u1, .pointer (some ⟨W.heap.size, 0, none⟩), .pointer (some ⟨W.heap.size + 1, 0, none⟩), u4, u5, u6, u7, u8, u9, u10, u11, u12, u13, u14, u15, u16, u17, u18, u19, u20, u21, u22, u23, u24, u25, u26, u27, u28, u29, u30, u31, u32, u33, u34, u35, u36, u37, u38, u39, u40, u41, u42, u43, u44, u45, u46], defers := [] } V from by
      have hal := (below_al2 W (.cells #[.int .i64 0, .int .i64 0, .slice none 0 0, .int .i64 0] 31) (.cells #[.int .i64 1, .int .i64 0, .slice Ao out.length co, .int .i64 st] 31)).drew
      have h1 : ((W.alloc (.cells #[.int .i64 0, .int .i64 0, .slice none 0 0, .int .i64 0] 31)).alloc (.cells #[.int .i64 1, .int .i64 0, .slice Ao out.length co, .int .i64 st] 31)).drew.heap[W.heap.size]? = _ := ((below_al1 _ _).block W.heap.size (by simp)).trans (new1 W (.cells #[.int .i64 0, .int .i64 0, .slice none 0 0, .int .i64 0] 31))
      have h2 : ((W.alloc (.cells #[.int .i64 0, .int .i64 0, .slice none 0 0, .int .i64 0] 31)).alloc (.cells #[.int .i64 1, .int .i64 0, .slice Ao out.length co, .int .i64 st] 31)).drew.heap[W.heap.size + 1]? = _ := new2 W _ _
      rw [hV] at hal h1 h2
      have hn1 : mb ≠ W.heap.size + 1 := by omega
      have hn0 : W.heap.size ≠ W.heap.size + 1 := by omega
      have hle1 : W.heap.size ≤ W.heap.size + 1 := by omega
      by_cases hk0 : 0 ≤ k
      · rw [if_pos hk0]
        refine end_pos hk0 h2 (cell_behind hal m8) (cell_behind hal m9) (cell_behind hal m10) (cell_behind hal m11) (HK.out V) (fun w' hb u1 u4 u5 u6 u7 u8 u9 u10 u11 u12 u13 u14 u15 u16 u17 u18 u19 u20 u21 u22 u23 u24 u25 u26 u27 u28 u29 u30 u31 u32 u33 u34 u35 u36 u37 u38 u39 u40 u41 u42 u43 u44 u45 u46 => ?_) _ _ _ _ _ _ _ _ _ _ _ _ _ _ _ _ _ _ _ _ _ _ _ _ _ _ _ _ _ _ _ _ _ _ _ _ _ _ _ _ _ _ _ _
        have hbw := hal.trans (hb.mono hal.size)
        have hw0 := (hb.block W.heap.size (Array.getElem?_eq_some_iff.1 h1).1).trans h1
        have hw1 := (hb.block (W.heap.size + 1) (Array.getElem?_eq_some_iff.1 h2).1).trans h2
        have hs4 := heap_set_self (heap_set_self hw1 0 (.int .i64 2)) 1 (.int .i64 k)
        refine end_t2 ((heap_set_ne hn0 _ _).trans ((heap_set_ne hn0 _ _).trans hw0)) hs4 ((World.cell?_setCell_far _ _ (⟨mb, _, none⟩ : Addr) _ (Ne.symm hn1)).trans ((World.cell?_setCell_far _ _ (⟨mb, _, none⟩ : Addr) _ (Ne.symm hn1)).trans (cell_behind hbw m6))) ((World.cell?_setCell_far _ _ (⟨mb, _, none⟩ : Addr) _ (Ne.symm hn1)).trans ((World.cell?_setCell_far _ _ (⟨mb, _, none⟩ : Addr) _ (Ne.symm hn1)).trans (cell_behind hbw m7))) ⟨Ao, co, rfl, HE.out _ ?_⟩ _ _ _ _ _ _ _ _ _ _ _ _ _ _ _ _ _ _ _ _ _ _ _ _ _ _ _ _ _ _ _ _ _ _ _ _ _ _ _ _ _ _ _ _
        exact (((((hbw.setCell (p := ⟨W.heap.size + 1, 0, none⟩) hle1 _).setCell (p := ⟨W.heap.size + 1, 1, none⟩) hle1 _).setCell (p := ⟨W.heap.size, 0, none⟩) (Nat.le_refl _) _).setCell (p := ⟨W.heap.size, 1, none⟩) (Nat.le_refl _) _).setCell (p := ⟨W.heap.size, 2, none⟩) (Nat.le_refl _) _).setCell (p := ⟨W.heap.size, 3, none⟩) (Nat.le_refl _) _
      · rw [if_neg hk0]
        refine end_neg (by omega) h2 (cell_behind hal m8) (cell_behind hal m9) (cell_behind hal m10) (cell_behind hal m11) (HK.out V) (fun w' hb u1 u4 u5 u6 u7 u8 u9 u10 u11 u12 u13 u14 u15 u16 u17 u18 u19 u20 u21 u22 u23 u24 u25 u26 u27 u28 u29 u30 u31 u32 u33 u34 u35 u36 u37 u38 u39 u40 u41 u42 u43 u44 u45 u46 => ?_) _ _ _ _ _ _ _ _ _ _ _ _ _ _ _ _ _ _ _ _ _ _ _ _ _ _ _ _ _ _ _ _ _ _ _ _ _ _ _ _ _ _ _ _
        have hbw := hal.trans (hb.mono hal.size)
        have hw0 := (hb.block W.heap.size (Array.getElem?_eq_some_iff.1 h1).1).trans h1
        have hw1 := (hb.block (W.heap.size + 1) (Array.getElem?_eq_some_iff.1 h2).1).trans h2
        have hs4 := heap_set_self (heap_set_self (heap_set_self (heap_set_self hw1 0 (.int .i64 2)) 1 (.int .i64 k)) 0 (.int .i64 4)) 1 (.int .i64 0)
        have hf : ∀ (w2 : World) (i : Nat) (x : Value) (q : Nat), (w2.setCell ⟨W.heap.size + 1, i, none⟩ x).cell? ⟨mb, q, none⟩ = w2.cell? ⟨mb, q, none⟩ := fun w2 i x q => World.cell?_setCell_far _ _ (⟨mb, q, none⟩ : Addr) _ (Ne.symm hn1)
        refine end_t2 ((heap_set_ne hn0 _ _).trans ((heap_set_ne hn0 _ _).trans ((heap_set_ne hn0 _ _).trans ((heap_set_ne hn0 _ _).trans hw0)))) hs4 (by rw [hf, hf, hf, hf]; exact cell_behind hbw m6) (by rw [hf, hf, hf, hf]; exact cell_behind hbw m7) ⟨Ao, co, rfl, HE.out _ ?_⟩ _ _ _ _ _ _ _ _ _ _ _ _ _ _ _ _ _ _ _ _ _ _ _ _ _ _ _ _ _ _ _ _ _ _ _ _ _ _ _ _ _ _ _ _
        exact (((((((hbw.setCell (p := ⟨W.heap.size + 1, 0, none⟩) hle1 _).setCell (p := ⟨W.heap.size + 1, 1, none⟩) hle1 _).setCell (p := ⟨W.heap.size + 1, 0, none⟩) hle1 _).setCell (p := ⟨W.heap.size + 1, 1, none⟩) hle1 _).setCell (p := ⟨W.heap.size, 0, none⟩) (Nat.le_refl _) _).setCell (p := ⟨W.heap.size, 1, none⟩) (Nat.le_refl _) _).setCell (p := ⟨W.heap.size, 2, none⟩) (Nat.le_refl _) _).setCell (p := ⟨W.heap.size, 3, none⟩) (Nat.le_refl _) _))
  generalize (if 0 ≤ k then (⟨2, k, out, st⟩ : PEnd) else ⟨4, 0, out, st⟩) = pe at *
  clear m6 m7 m8 m9 m10 m11
  go_enter Tryd.func29, Tryd.ntmps29
  go_wp2_with fail
  go_region
  refine (‹∀ (a : Act) (w : World), Code.wp Tryd.prog _ _ a w → _›) _ _ ?_
  exact wp_seq (HT.out _ rfl _ _ _ _ _ _ _ _ _ _ _ _ _ _ _ _ _ _ _ _ _ _ _ _ _ _ _ _ _ _ _ _ _ _ _ _ _ _ _ _ _ _ _ _ _ (fun a w h => h))
end
end Go.Proofs.YtnolhcdfknjncaaDoor
