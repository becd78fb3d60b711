/-
  1 texts of this seat in one: V38.
-/
import Derived.Test.YtnolhcdfknjncaaDoorQT
/-
  The document's run: a term.
-/
set_option linter.unusedVariables false
set_option linter.unusedSimpArgs false
namespace Go.Proofs.YtnolhcdfknjncaaDoor
open Go.RowKit

theorem evs_len {rec : Core → PEnv → St → Out} {e : PEnv} : ∀ (cs : List Core) (acc : List PV) (s : St) (vs : List PV) (s' : St), evs rec e cs acc s = (.inr vs, s') → vs.length = acc.length + cs.length
  | [], acc, s, vs, s', h => by
    rw [evs] at h
    simp only [Prod.mk.injEq, Sum.inr.injEq] at h
    rw [← h.1]; simp
  | c :: cs, acc, s, vs, s', h => by
    rcases hr : rec c e s with ⟨r, s2⟩
    by_cases hv : ∃ v, r = .val v
    · obtain ⟨v, rfl⟩ := hv
      rw [revs_val hr] at h
      have := evs_len cs (acc ++ [v]) s2 vs s' h
      simp at this ⊢; omega
    · rw [evs_off hr (fun v e => hv ⟨v, e⟩)] at h
      simp at h
section
variable {X Y Y' : Nat → Prop} {B mb cb n : Nat} {inp : List Int} {fuel : FL} {s s1 : St} {W W' V0 V w w' : World} {o : Out} {rec : Core → PEnv → St → Out} {e : PEnv}
theorem rest_app {nn : Int} {ks : List Int} {c0 c1 : Core} : restO (evs rec e [c0, c1] [] s) (fun vs s' => callP rec (vs[0]?.getD default) (vs[1]?.getD default) s') = bodyP inp rec (.mk 4 nn ks [c0, c1]) e s := by
  have h4 : ¬ (4 : Int) = 1 := by decide
  simp only [bodyP, Core.k, Core.cs, if_neg (show ¬ (4 : Int) = 1 by decide), if_neg (show ¬ (4 : Int) = 2 by decide), if_neg (show ¬ (4 : Int) = 3 by decide), if_true, List.getElem?_cons_zero, List.getElem?_cons_succ, Option.getD_some]
  rcases h0 : rec c0 e s with ⟨r, s2⟩
  cases r with
  | val v =>
    rw [revs_val h0]
    simp only [Out.andThen]
    rcases h1 : rec c1 e s2 with ⟨r, s3⟩
    cases r with
    | val v1 => rw [revs_val h1]; rfl
    | raised v1 => rw [evs_off h1 (by simp)]; rfl
    | stuck => rw [evs_off h1 (by simp)]; rfl
    | cut => rw [evs_off h1 (by simp)]; rfl
  | raised v => rw [evs_off h0 (by simp)]; rfl
  | stuck => rw [evs_off h0 (by simp)]; rfl
  | cut => rw [evs_off h0 (by simp)]; rfl
theorem rest_field {nn : Int} {ks : List Int} {c0 : Core} : restO (evs rec e [c0] [] s) (fun vs s' => fieldO (vs[0]?.getD default) nn s') = bodyP inp rec (.mk 8 nn ks [c0]) e s := by
  simp only [bodyP, Core.k, Core.cs, Core.n, if_neg (show ¬ (8 : Int) = 1 by decide), if_neg (show ¬ (8 : Int) = 2 by decide), if_neg (show ¬ (8 : Int) = 3 by decide), if_neg (show ¬ (8 : Int) = 4 by decide), if_neg (show ¬ (8 : Int) = 5 by decide), if_neg (show ¬ (8 : Int) = 6 by decide), if_true, List.getElem?_cons_zero, Option.getD_some]
  rcases h0 : rec c0 e s with ⟨r, s2⟩
  cases r with
  | val v =>
    rw [revs_val h0]
    simp only [Out.andThen]
    rfl
  | raised v => rw [evs_off h0 (by simp)]; rfl
  | stuck => rw [evs_off h0 (by simp)]; rfl
  | cut => rw [evs_off h0 (by simp)]; rfl
theorem rest_block {nn : Int} {ks : List Int} {cs : List Core} : restO (evs rec e cs [] s) (fun vs s' => (.val (.blk nn vs), s')) = bodyP inp rec (.mk 7 nn ks cs) e s := by
  simp only [bodyP, Core.k, Core.cs, Core.n, if_neg (show ¬ (7 : Int) = 1 by decide), if_neg (show ¬ (7 : Int) = 2 by decide), if_neg (show ¬ (7 : Int) = 3 by decide), if_neg (show ¬ (7 : Int) = 4 by decide), if_neg (show ¬ (7 : Int) = 5 by decide), if_neg (show ¬ (7 : Int) = 6 by decide), if_neg (show ¬ (7 : Int) = 8 by decide), if_neg (show ¬ (7 : Int) = 9 by decide), if_true]
  rcases evs rec e cs [] s with ⟨r, s2⟩
  cases r <;> rfl
theorem rest_prim {nn : Int} {ks : List Int} {cs : List Core} : restO (evs rec e cs [] s) (fun vs s' => primP inp rec nn vs s') = bodyP inp rec (.mk 10 nn ks cs) e s := by
  simp only [bodyP, Core.k, Core.cs, Core.n, if_neg (show ¬ (10 : Int) = 1 by decide), if_neg (show ¬ (10 : Int) = 2 by decide), if_neg (show ¬ (10 : Int) = 3 by decide), if_neg (show ¬ (10 : Int) = 4 by decide), if_neg (show ¬ (10 : Int) = 5 by decide), if_neg (show ¬ (10 : Int) = 6 by decide), if_neg (show ¬ (10 : Int) = 7 by decide), if_neg (show ¬ (10 : Int) = 8 by decide), if_neg (show ¬ (10 : Int) = 9 by decide)]
  rcases evs rec e cs [] s with ⟨r, s2⟩
  cases r <;> rfl
theorem try_prim {l0 l1 : PV} : tryO rec l1 (callP rec l0 (.int 0) s) = primP inp rec 16 [l0, l1] s := by
  simp only [primP, if_neg (show ¬ (16 : Int) = 10 by decide), if_neg (show ¬ (16 : Int) = 11 by decide), if_neg (show ¬ (16 : Int) = 12 by decide), if_neg (show ¬ (16 : Int) = 13 by decide), if_neg (show ¬ (16 : Int) = 14 by decide), if_neg (show ¬ (16 : Int) = 15 by decide), if_true, List.getElem?_cons_zero, List.getElem?_cons_succ, Option.getD_some]
  rcases callP rec l0 (.int 0) s with ⟨r, s2⟩
  cases r <;> rfl
theorem let_body {nn : Int} {ks : List Int} {c0 c1 : Core} : letO rec nn c1 e (rec c0 e s) = bodyP inp rec (.mk 5 nn ks [c0, c1]) e s := by
  simp only [bodyP, Core.k, Core.cs, Core.n, if_neg (show ¬ (5 : Int) = 1 by decide), if_neg (show ¬ (5 : Int) = 2 by decide), if_neg (show ¬ (5 : Int) = 3 by decide), if_neg (show ¬ (5 : Int) = 4 by decide), if_true, List.getElem?_cons_zero, List.getElem?_cons_succ, Option.getD_some]
  rcases rec c0 e s with ⟨r, s2⟩
  cases r <;> rfl
theorem sw_body {nn : Int} {ks : List Int} {cs : List Core} : swO rec ks cs e (rec (cs[0]?.getD default) e s) = bodyP inp rec (.mk 9 nn ks cs) e s := by
  simp only [bodyP, Core.k, Core.cs, Core.n, Core.ks, if_neg (show ¬ (9 : Int) = 1 by decide), if_neg (show ¬ (9 : Int) = 2 by decide), if_neg (show ¬ (9 : Int) = 3 by decide), if_neg (show ¬ (9 : Int) = 4 by decide), if_neg (show ¬ (9 : Int) = 5 by decide), if_neg (show ¬ (9 : Int) = 6 by decide), if_neg (show ¬ (9 : Int) = 8 by decide), if_true]
  rcases rec (cs[0]?.getD default) e s with ⟨r, s2⟩
  cases r <;> rfl

theorem rterm_any (B mb cb : Nat) (inp : List Int) : ∀ n, RTermOk B mb cb inp n := by
  intro n
  induction n with
  | zero => intro X fuel s W t g0 g1 g2 g3 e pv h hX hc hs he hn; omega
  | succ n ih =>
    intro X fuel s W t g0 g1 g2 g3 e pv h hX hc hs he hn
    obtain ⟨pq, rfl⟩ := he.shape
    have hcc := hc
    obtain ⟨k, nn, ks, cs, Ak, ck, Ac, cc, b, oo, G0, G1, G2, G3, rfl, hv, hks, hck, hcp, hK⟩ := hc.open_
    simp only [Array.mk.injEq, List.cons.injEq, and_true] at hv
    obtain ⟨rfl, rfl, rfl, rfl⟩ := hv
    by_cases hl : s.left = 0
    · have : ev inp (n + 1) (.mk k nn ks cs) e s = (.cut, s) := by simp [ev, hl]
      rw [this]
      exact rterm_cut h hl pq
    rw [ev_succ hl]
    obtain ⟨hk1, hk2, hnum, hcnt, hkey⟩ := hs.node
    have hsk : ∀ c ∈ cs, SmallT c := fun c hc => hs.kid hc
    have hkl := hs.keys
    simp only [Core.k, Core.n, Core.ks, Core.cs] at hk1 hk2 hnum hcnt hkey hkl
    have hall := h.askB
    have hlim := h.limB
    have hl1 : fuel.lim - 1 + 1 = fuel.lim := by omega
    have hl2 : fuel.dec.lim < fuel.dec.f := by show fuel.lim - 1 < fuel.f; omega
    have hcase : k = 1 ∨ k = 2 ∨ k = 3 ∨ k = 4 ∨ k = 5 ∨ k = 6 ∨ k = 7 ∨ k = 8 ∨ k = 9 ∨ k = 10 := by omega
    have hleft : ∀ (vs : List PV) (s' : St), evs (ev inp n) e cs [] s.dec = (.inr vs, s') → s'.left < n := fun vs s' hev => by
      have h1 := (evs_le (ev_le inp n) e cs [] s.dec).left
      rw [hev] at h1
      have : s'.left ≤ s.left - 1 := h1
      omega
    rcases hcase with rfl | rfl | rfl | rfl | rfl | rfl | rfl | rfl | rfl | rfl
    · refine (rterm_var h hX hcc he hl).mono fun en w' hp => ?_
      have : bodyP inp (ev inp n) (.mk 1 nn ks cs) e s.dec = (match lookup e nn with | some v => (.val v, s.dec) | none => (.stuck, s.dec)) := by simp only [bodyP, Core.k, Core.n, if_true]; cases lookup e nn <;> rfl
      rw [this]; exact hp
    · refine (rterm_int h hX hcc he hl).mono fun en w' hp => ?_
      exact hp
    · simp [cntB, kidsL] at hcnt
      have hcs : 0 < cs.length := by omega
      refine (rterm_fn h hX hcc hK hcs (hsk _ (List.getElem_mem hcs)) he hl).mono fun en w' hp => ?_
      have : bodyP inp (ev inp n) (.mk 3 nn ks cs) e s.dec = (.val (.fn s.fns.length), { s.dec with fns := s.fns ++ [⟨nn, cs[0], e⟩] }) := by simp [bodyP, Core.k, Core.n, Core.cs, hcs]
      rw [this]; exact hp
    · simp [cntB, kidsL] at hcnt
      match cs, hcnt, hcc, hK, hsk, hleft with
      | [c0, c1], _, hcc, hK, hsk, hleft =>
        rw [← rest_app]
        refine rterm_rest ih h hX (.inl rfl) hcc hK hsk he hl hn _ (fun vs s' w A d hev hg hXl hv hd => ?_)
        have h2 := evs_len _ _ _ _ _ hev
        match vs, h2, hv, hev with
        | [a, b'], _, hv, hev => exact (does_app ih hg hXl hv (by simp) (hleft _ _ hev)).mono fun en w' hp => ROut.upd hp hl1 hlim
    · simp [cntB, kidsL] at hcnt
      match cs, hcnt, hcc, hK, hsk with
      | [c0, c1], _, hcc, hK, hsk =>
        rw [← let_body]
        exact rterm_let ih h hX hcc hK (by simp) hsk he hl hn
    · simp only [cntB, if_true, decide_eq_true_eq] at hcnt
      have : bodyP inp (ev inp n) (.mk 6 nn ks cs) e s.dec = ev inp n (cs[cs.length - 1]?.getD default) (fixEnv ks s.fns.length e) { s.dec with fns := s.fns ++ fixFns (fixEnv ks s.fns.length e) ks cs } := by
        simp only [bodyP, Core.k, Core.n, Core.ks, Core.cs, if_neg (show ¬ (6 : Int) = 1 by decide), if_neg (show ¬ (6 : Int) = 2 by decide), if_neg (show ¬ (6 : Int) = 3 by decide), if_neg (show ¬ (6 : Int) = 4 by decide), if_neg (show ¬ (6 : Int) = 5 by decide), if_true]
      rw [this]
      exact rterm_fix ih h hX hcc hK (q := ks.length / 2) hcnt.2.2 hs he hl hn
    · simp only [cntB, if_neg (show ¬ (7 : Int) = 6 by decide), if_neg (show ¬ (7 : Int) = 9 by decide), if_true, decide_eq_true_eq] at hcnt
      rw [← rest_block]
      refine rterm_rest ih h hX (.inr (.inl rfl)) hcc hK hsk he hl hn _ (fun vs s' w A d hev hg hXl hv hd => ?_)
      have h2 := evs_len _ _ _ _ _ hev
      simp only [List.length_nil, Nat.zero_add] at h2
      exact (does_block hg hv hd (by omega)).mono fun en w' hp => ROut.upd hp hl1 hlim
    · simp [cntB, kidsL] at hcnt
      have hnn : 0 ≤ nn := by
        simp only [numE, if_neg (show ¬ (8 : Int) = 10 by decide)] at hnum
        by_cases h0 : 0 ≤ nn ∧ nn ≤ 7
        · exact h0.1
        · exfalso; simp [h0] at hnum
      match cs, hcnt, hcc, hK, hsk, hleft with
      | [c0], _, hcc, hK, hsk, hleft =>
        rw [← rest_field]
        refine rterm_rest ih h hX (.inr (.inr (.inl rfl))) hcc hK hsk he hl hn _ (fun vs s' w A d hev hg hXl hv hd => ?_)
        have h2 := evs_len _ _ _ _ _ hev
        match vs, h2, hv, hev with
        | [a], _, hv, hev => exact (does_field hg hnn hv (by simp)).mono fun en w' hp => ROut.upd hp hl1 hlim
    · simp only [cntB, if_neg (show ¬ (9 : Int) = 6 by decide), if_true, decide_eq_true_eq] at hcnt
      rw [← sw_body]
      exact rterm_switch ih h hX hcc hks hK hcnt hkl hsk he hl hn
    · simp only [cntB, if_neg (show ¬ (10 : Int) = 6 by decide), if_neg (show ¬ (10 : Int) = 9 by decide), if_neg (show ¬ (10 : Int) = 7 by decide), if_true, decide_eq_true_eq] at hcnt
      have hp : 1 ≤ nn ∧ nn ≤ 16 := by
        by_cases h0 : 1 ≤ nn ∧ nn ≤ 16
        · exact h0
        · exfalso; simp [numE, h0] at hnum
      rw [← rest_prim]
      refine rterm_rest ih h hX (.inr (.inr (.inr rfl))) hcc hK hsk he hl hn _ (fun vs s' w A d hev hg hXl hv hd => ?_)
      have h2 := evs_len _ _ _ _ _ hev
      simp only [List.length_nil, Nat.zero_add] at h2
      rw [hcnt.2] at h2
      by_cases h16 : nn = 16
      · subst h16
        have h3 : vs.length = 2 := by rw [h2]; decide
        match vs, h3, hv, hev with
        | [a, b'], _, hv, hev =>
          refine (does_try ih hg hXl hv (by simp) (hleft _ _ hev)).mono fun en w' hp => ?_
          rw [← try_prim]
          exact ROut.upd hp hl1 hlim
      · exact (does_prim hg hl2 hXl _ hp.1 (by omega) hv h2).mono fun en w' hp => ROut.updu hp hl1
end
end Go.Proofs.YtnolhcdfknjncaaDoor
