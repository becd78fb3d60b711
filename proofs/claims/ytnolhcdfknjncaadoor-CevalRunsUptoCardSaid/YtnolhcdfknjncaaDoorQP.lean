/-
  2 texts of this seat in one: P1 M0.
-/
import Derived.Test.YtnolhcdfknjncaaDoorQE
import Derived.Test.YtnolhcdfknjncaaDoorQL
/-
  The plain law of more fuel.
-/
set_option linter.unusedVariables false
set_option linter.unusedSimpArgs false
namespace Go.Proofs.YtnolhcdfknjncaaDoor

/-- what a state may become -/
structure Grow (s s' : St) : Prop where
  left : s'.left ≤ s.left
  out : s.out <+: s'.out
theorem Grow.refl (s : St) : Grow s s := ⟨Nat.le_refl _, List.prefix_refl _⟩
theorem Grow.trans {a b c : St} (h : Grow a b) (k : Grow b c) : Grow a c := ⟨Nat.le_trans k.left h.left, h.out.trans k.out⟩
theorem andThen_grow {s : St} {o : Out} {f : PV → St → Out} (h : Grow s o.2) (hf : ∀ v s', Grow s' (f v s').2) : Grow s (Out.andThen o f).2 := by
  obtain ⟨r, s'⟩ := o
  cases r
  · exact h.trans (hf _ _)
  all_goals exact h
section
variable {inp : List Int} {rec : Core → PEnv → St → Out} (hrec : ∀ t e s, Grow s (rec t e s).2)
include hrec
theorem callP_grow (f a : PV) (s : St) : Grow s (callP rec f a s).2 := by
  unfold callP
  cases f <;> first | exact Grow.refl _ | exact hrec _ _ _
theorem evs_grow (e : PEnv) : ∀ (cs : List Core) (acc : List PV) (s : St), Grow s (evs rec e cs acc s).2
  | [], acc, s => Grow.refl _
  | c :: cs, acc, s => by
    have h := hrec c e s
    unfold evs
    generalize rec c e s = o at h
    obtain ⟨r, s'⟩ := o
    cases r
    · exact h.trans (evs_grow e cs _ s')
    all_goals exact h
theorem primP_grow (p : Int) (l : List PV) (s : St) : Grow s (primP inp rec p l s).2 := by
  unfold primP
  simp only []
  split
  · exact ⟨Nat.le_refl _, List.prefix_refl _⟩
  split
  · split <;> exact Grow.refl _
  split
  · split
    · exact ⟨Nat.le_refl _, List.prefix_refl _⟩
    · exact Grow.refl _
  split
  · split
    · exact ⟨Nat.le_refl _, List.prefix_append _ _⟩
    · exact Grow.refl _
  split
  · unfold readP
    split <;> exact ⟨Nat.le_refl _, List.prefix_refl _⟩
  split
  · split <;> exact Grow.refl _
  split
  · have h := callP_grow hrec (l[0]?.getD default) (.int 0) s
    split
    · rename_i v s' heq
      rw [heq] at h
      exact h.trans (callP_grow hrec _ _ _)
    · exact h
  split
  · split <;> exact Grow.refl _
  · exact Grow.refl _
theorem bodyP_grow (t : Core) (e : PEnv) (s : St) : Grow s (bodyP inp rec t e s).2 := by
  unfold bodyP
  simp only []
  split
  · split <;> exact Grow.refl _
  split
  · exact Grow.refl _
  split
  · exact ⟨Nat.le_refl _, List.prefix_refl _⟩
  split
  · exact andThen_grow (hrec _ _ _) fun f s => andThen_grow (hrec _ _ _) fun a s => callP_grow hrec f a s
  split
  · exact andThen_grow (hrec _ _ _) fun f s => hrec _ _ _
  split
  · have h := hrec (t.cs[t.cs.length - 1]?.getD default) (fixEnv t.ks s.fns.length e) { s with fns := s.fns ++ fixFns (fixEnv t.ks s.fns.length e) t.ks t.cs }
    exact ⟨h.left, h.out⟩
  split
  · refine andThen_grow (hrec _ _ _) fun v s => ?_
    split
    · split <;> exact Grow.refl _
    · exact Grow.refl _
  split
  · refine andThen_grow (hrec _ _ _) fun v s => ?_
    split
    · exact hrec _ _ _
    · exact Grow.refl _
  · have h := evs_grow hrec e t.cs [] s
    split
    · rename_i r s' heq
      rw [heq] at h
      exact h
    · rename_i l s' heq
      rw [heq] at h
      split
      · exact h
      · exact h.trans (primP_grow hrec _ _ _)
end
theorem ev_grow (inp : List Int) : ∀ (n : Nat) (t : Core) (e : PEnv) (s : St), Grow s (ev inp n t e s).2
  | 0, _, _, s => Grow.refl _
  | n + 1, t, e, s => by
    unfold ev
    split
    · exact Grow.refl _
    · have h := bodyP_grow (inp := inp) (ev_grow inp n) t e { s with left := s.left - 1 }
      exact ⟨Nat.le_trans h.left (by simp), h.out⟩

/-! ### more fuel -/
def St.up (s : St) (k : Nat) : St := { s with left := s.left + k }
/-- a run with less fuel and one with k more -/
structure Rel (k : Nat) (o o' : Out) : Prop where
  whole : o.1 ≠ .cut → o' = (o.1, o.2.up k)
  cut : o.1 = .cut → o.2.left = 0 ∧ o.2.out <+: o'.2.out ∧ o'.2.left ≤ k
theorem Rel.same (k : Nat) (r : Res) (hr : r ≠ .cut) (s : St) : Rel k (r, s) (r, s.up k) := ⟨fun _ => rfl, fun h => absurd h hr⟩
theorem Rel.andThen {k : Nat} {o o' : Out} {f f' : PV → St → Out} (h : Rel k o o') (hf : ∀ v, o.1 = .val v → Rel k (f v o.2) (f' v (o.2.up k))) (hg : ∀ v s, Grow s (f' v s).2) : Rel k (Out.andThen o f) (Out.andThen o' f') := by
  obtain ⟨r, s⟩ := o
  cases r with
  | val v => rw [h.whole (by simp)]; exact hf v rfl
  | raised v => rw [h.whole (by simp)]; exact Rel.same k _ (by simp) s
  | stuck => rw [h.whole (by simp)]; exact Rel.same k _ (by simp) s
  | cut =>
    obtain ⟨h1, h2, h3⟩ := h.cut rfl
    refine ⟨fun hh => absurd rfl hh, fun _ => ?_⟩
    have hgr : Grow o'.2 (Out.andThen o' f').2 := andThen_grow (Grow.refl _) hg
    exact ⟨h1, h2.trans hgr.out, Nat.le_trans hgr.left h3⟩
section
variable {inp : List Int} {n k : Nat} {rec rec' : Core → PEnv → St → Out} (hle : ∀ t e s, Le s (rec t e s).2) (hgr : ∀ t e s, Grow s (rec' t e s).2) (hrel : ∀ t e s, s.left < n → Rel k (rec t e s) (rec' t e (s.up k)))
include hle hgr hrel
omit hle hgr in
theorem callP_rel (f a : PV) (s : St) (hs : s.left < n) : Rel k (callP rec f a s) (callP rec' f a (s.up k)) := by
  unfold callP
  cases f <;> first | exact Rel.same k _ (by simp) s | exact hrel _ _ _ hs
/-- the rows of values -/
theorem evs_rel (e : PEnv) : ∀ (cs : List Core) (acc : List PV) (s : St), s.left < n →
    (∀ l s', evs rec e cs acc s = (.inr l, s') → evs rec' e cs acc (s.up k) = (.inr l, s'.up k) ∧ s'.left < n) ∧
    (∀ r s', evs rec e cs acc s = (.inl r, s') → r ≠ .cut → evs rec' e cs acc (s.up k) = (.inl r, s'.up k)) ∧
    (∀ s', evs rec e cs acc s = (.inl .cut, s') → s'.left = 0 ∧ s'.out <+: (evs rec' e cs acc (s.up k)).2.out ∧ (evs rec' e cs acc (s.up k)).2.left ≤ k)
  | [], acc, s, hs => ⟨fun l s' h => by simp only [evs, Prod.mk.injEq, Sum.inr.injEq] at h ⊢; obtain ⟨rfl, rfl⟩ := h; exact ⟨⟨rfl, rfl⟩, hs⟩, fun r s' h => by simp [evs] at h, fun s' h => by simp [evs] at h⟩
  | c :: cs, acc, s, hs => by
    have h := hrel c e s hs
    have hl := hle c e s
    have hg := fun (s'' : St) acc' => evs_grow hgr e cs acc' s''
    unfold evs
    generalize hO : rec c e s = o at *
    generalize hO' : rec' c e (s.up k) = o' at *
    obtain ⟨r, s1⟩ := o
    cases r with
    | val v =>
      have := h.whole (by simp)
      subst this
      exact evs_rel e cs (acc ++ [v]) s1 (Nat.lt_of_le_of_lt hl.left hs)
    | raised v =>
      have := h.whole (by simp)
      subst this
      refine ⟨fun l s' h => by simp at h, fun r s' h _ => ?_, fun s' h => by simp at h⟩
      simp only [Prod.mk.injEq, Sum.inl.injEq] at h ⊢
      obtain ⟨rfl, rfl⟩ := h
      exact ⟨rfl, rfl⟩
    | stuck =>
      have := h.whole (by simp)
      subst this
      refine ⟨fun l s' h => by simp at h, fun r s' h _ => ?_, fun s' h => by simp at h⟩
      simp only [Prod.mk.injEq, Sum.inl.injEq] at h ⊢
      obtain ⟨rfl, rfl⟩ := h
      exact ⟨rfl, rfl⟩
    | cut =>
      obtain ⟨h1, h2, h3⟩ := h.cut rfl
      refine ⟨fun l s' h => by simp at h, fun r s' h hr => ?_, fun s' h => ?_⟩
      · simp only [Prod.mk.injEq, Sum.inl.injEq] at h; exact absurd h.1.symm hr
      · simp only [Prod.mk.injEq, Sum.inl.injEq, true_and] at h
        subst h
        refine ⟨h1, ?_⟩
        obtain ⟨r', s2⟩ := o'
        cases r' with
        | val v => exact ⟨h2.trans (hg s2 _).out, Nat.le_trans (hg s2 _).left h3⟩
        | raised v => exact ⟨h2, h3⟩
        | stuck => exact ⟨h2, h3⟩
        | cut => exact ⟨h2, h3⟩
theorem primP_rel (p : Int) (l : List PV) (s : St) (hs : s.left < n) : Rel k (primP inp rec p l s) (primP inp rec' p l (s.up k)) := by
  unfold primP
  simp only []
  split
  · exact Rel.same k _ (by simp) { s with cells := s.cells ++ [l[0]?.getD default] }
  split
  · split
    · exact Rel.same k _ (by simp) s
    · exact Rel.same k _ (by simp) s
  split
  · split
    · rename_i i _
      exact Rel.same k _ (by simp) { s with cells := s.cells.set i (l[1]?.getD default) }
    · exact Rel.same k _ (by simp) s
  split
  · split
    · rename_i m _
      exact Rel.same k _ (by simp) { s with out := s.out ++ [m] }
    · exact Rel.same k _ (by simp) s
  split
  · unfold readP
    by_cases hc : s.asked < inp.length
    · rw [if_pos hc, if_pos (show (s.up k).asked < inp.length from hc)]
      exact Rel.same k _ (by simp) { s with asked := s.asked + 1 }
    · rw [if_neg hc, if_neg (show ¬ (s.up k).asked < inp.length from hc)]
      exact Rel.same k _ (by simp) { s with asked := s.asked + 1 }
  split
  · split
    · exact Rel.same k _ (by simp) s
    · exact Rel.same k _ (by simp) s
  split
  · have h := callP_rel hrel (l[0]?.getD default) (.int 0) s hs
    have hl := callP_le hle (l[0]?.getD default) (.int 0) s
    generalize callP rec (l[0]?.getD default) (.int 0) s = o at *
    generalize callP rec' (l[0]?.getD default) (.int 0) (s.up k) = o' at *
    obtain ⟨r, s1⟩ := o
    cases r with
    | val v => rw [h.whole (by simp)]; exact Rel.same k _ (by simp) s1
    | raised v => rw [h.whole (by simp)]; exact callP_rel hrel _ _ s1 (Nat.lt_of_le_of_lt hl.left hs)
    | stuck => rw [h.whole (by simp)]; exact Rel.same k _ (by simp) s1
    | cut =>
      obtain ⟨h1, h2, h3⟩ := h.cut rfl
      refine ⟨fun hh => absurd rfl hh, fun _ => ⟨h1, ?_⟩⟩
      obtain ⟨r', s2⟩ := o'
      cases r' with
      | raised v =>
        have := callP_grow hgr (l[1]?.getD default) v s2
        exact ⟨h2.trans this.out, Nat.le_trans this.left h3⟩
      | val v => exact ⟨h2, h3⟩
      | stuck => exact ⟨h2, h3⟩
      | cut => exact ⟨h2, h3⟩
  split
  · split
    · exact Rel.same k _ (by simp) s
    · exact Rel.same k _ (by simp) s
  · exact Rel.same k _ (by simp) s
theorem bodyP_rel (t : Core) (e : PEnv) (s : St) (hs : s.left < n) : Rel k (bodyP inp rec t e s) (bodyP inp rec' t e (s.up k)) := by
  have hlt : ∀ {c : Core} {e' : PEnv} {s1 : St}, s1.left < n → (rec c e' s1).2.left < n := fun h => Nat.lt_of_le_of_lt (hle _ _ _).left h
  unfold bodyP
  simp only []
  split
  · split
    · exact Rel.same k _ (by simp) s
    · exact Rel.same k _ (by simp) s
  split
  · exact Rel.same k _ (by simp) s
  split
  · exact Rel.same k _ (by simp) { s with fns := s.fns ++ [⟨t.n, t.cs[0]?.getD default, e⟩] }
  split
  · exact (hrel _ _ _ hs).andThen (fun f _ => (hrel _ _ _ (hlt hs)).andThen (fun a _ => callP_rel hrel f a _ (hlt (hlt hs))) (fun a s => callP_grow hgr f a s)) (fun f s => andThen_grow (hgr _ _ _) fun a s => callP_grow hgr f a s)
  split
  · exact (hrel _ _ _ hs).andThen (fun v _ => hrel _ _ _ (hlt hs)) (fun v s => hgr _ _ _)
  split
  · exact hrel (t.cs[t.cs.length - 1]?.getD default) (fixEnv t.ks s.fns.length e) { s with fns := s.fns ++ fixFns (fixEnv t.ks s.fns.length e) t.ks t.cs } hs
  split
  · refine (hrel _ _ _ hs).andThen (fun v _ => ?_) (fun v s => ?_)
    · split
      · split
        · exact Rel.same k _ (by simp) _
        · exact Rel.same k _ (by simp) _
      · exact Rel.same k _ (by simp) _
    · split
      · split <;> exact Grow.refl _
      · exact Grow.refl _
  split
  · refine (hrel _ _ _ hs).andThen (fun v _ => ?_) (fun v s => ?_)
    · split
      · exact hrel _ _ _ (hlt hs)
      · exact Rel.same k _ (by simp) _
    · split
      · exact hgr _ _ _
      · exact Grow.refl _
  · obtain ⟨h1, h2, h3⟩ := evs_rel hle hgr hrel e t.cs [] s hs
    have hgp := fun l s => primP_grow (inp := inp) hgr t.n l s
    generalize hO : evs rec e t.cs [] s = o at *
    generalize hO' : evs rec' e t.cs [] (s.up k) = o' at *
    obtain ⟨r, s1⟩ := o
    cases r with
    | inr l =>
      obtain ⟨h4, h5⟩ := h1 l s1 rfl
      rw [h4]
      simp only []
      split
      · exact Rel.same k _ (by simp) s1
      · exact primP_rel hle hgr hrel t.n l s1 h5
    | inl r =>
      by_cases hr : r = .cut
      · subst hr
        obtain ⟨h4, h5, h6⟩ := h3 s1 rfl
        refine ⟨fun hh => absurd rfl hh, fun _ => ⟨h4, ?_⟩⟩
        obtain ⟨r', s2⟩ := o'
        cases r' with
        | inl r' => exact ⟨h5, h6⟩
        | inr l =>
          simp only []
          split
          · exact ⟨h5, h6⟩
          · exact ⟨h5.trans (hgp l s2).out, Nat.le_trans (hgp l s2).left h6⟩
      · rw [h2 r s1 rfl hr]
        exact Rel.same k r hr s1
end

theorem ev_rel (inp : List Int) (k : Nat) : ∀ (n n' : Nat), n ≤ n' → ∀ (t : Core) (e : PEnv) (s : St), s.left < n → s.left + k < n' → Rel k (ev inp n t e s) (ev inp n' t e (s.up k))
  | 0, _, _, _, _, _, h, _ => absurd h (Nat.not_lt_zero _)
  | n + 1, 0, h, _, _, _, _, _ => by omega
  | n + 1, n' + 1, hn, t, e, s, h1, h2 => by
    by_cases h0 : s.left = 0
    · have hA : ev inp (n + 1) t e s = (.cut, s) := by rw [ev, if_pos h0]
      have hg := ev_grow inp (n' + 1) t e (s.up k)
      rw [hA]
      refine ⟨fun hh => absurd rfl hh, fun _ => ⟨h0, hg.out, ?_⟩⟩
      have : (s.up k).left = k := by simp [St.up, h0]
      exact Nat.le_trans hg.left (Nat.le_of_eq this)
    · have hB : ¬ (s.up k).left = 0 := by simp only [St.up]; omega
      have hup : ({ s.up k with left := (s.up k).left - 1 } : St) = ({ s with left := s.left - 1 } : St).up k := by simp only [St.up]; congr 1; omega
      rw [ev, ev, if_neg h0, if_neg hB, hup]
      -- the steps that are left are fewer than either depth
      refine bodyP_rel (n := s.left) (ev_le inp n) (ev_grow inp n') (fun t e s' hs' => ?_) t e { s with left := s.left - 1 } (by show s.left - 1 < s.left; omega)
      exact ev_rel inp k n n' (by omega) t e s' (by omega) (by omega)

/-- **the law of more fuel** -/
theorem more_ends {t : Core} {inp : List Int} {F1 F2 : Nat} (h : F1 ≤ F2) :
    ((endOf F1 (ev inp (F1 + 1) t [] (initSt F1))).kind ≠ 3 → endOf F2 (ev inp (F2 + 1) t [] (initSt F2)) = endOf F1 (ev inp (F1 + 1) t [] (initSt F1))) ∧
    ((endOf F1 (ev inp (F1 + 1) t [] (initSt F1))).kind = 3 → (endOf F1 (ev inp (F1 + 1) t [] (initSt F1))).out <+: (endOf F2 (ev inp (F2 + 1) t [] (initSt F2))).out ∧
      (endOf F1 (ev inp (F1 + 1) t [] (initSt F1))).steps ≤ (endOf F2 (ev inp (F2 + 1) t [] (initSt F2))).steps ∧ (endOf F1 (ev inp (F1 + 1) t [] (initSt F1))).steps = F1) := by
  obtain ⟨k, rfl⟩ : ∃ k, F2 = F1 + k := ⟨F2 - F1, by omega⟩
  have hr := ev_rel inp k (F1 + 1) (F1 + k + 1) (by omega) t [] (initSt F1) (by simp [initSt]) (by simp [initSt])
  have hup : (initSt F1).up k = initSt (F1 + k) := rfl
  rw [hup] at hr
  have hl := (ev_le inp (F1 + 1) t [] (initSt F1)).left
  generalize ev inp (F1 + 1) t [] (initSt F1) = o at *
  generalize ev inp (F1 + k + 1) t [] (initSt (F1 + k)) = o' at *
  obtain ⟨r, s⟩ := o
  have hl' : s.left ≤ F1 := hl
  cases r with
  | val v =>
    rw [hr.whole (by simp)]
    refine ⟨fun _ => ?_, fun h => by simp [endOf] at h⟩
    simp only [endOf, St.up]; congr 1; omega
  | raised v =>
    rw [hr.whole (by simp)]
    refine ⟨fun _ => ?_, fun h => ?_⟩
    · have : F1 + k - (s.left + k) = F1 - s.left := by omega
      simp only [endOf, St.up, this]
    · simp only [endOf] at h; split at h <;> simp at h
  | stuck =>
    rw [hr.whole (by simp)]
    refine ⟨fun _ => ?_, fun h => by simp [endOf] at h⟩
    simp only [endOf, St.up]; congr 1; omega
  | cut =>
    obtain ⟨h1, h2, h3⟩ := hr.cut rfl
    refine ⟨fun h => by simp [endOf] at h, fun _ => ?_⟩
    have hout : (endOf (F1 + k) o').out = o'.2.out := by
      obtain ⟨r', s'⟩ := o'
      cases r' <;> simp [endOf]
      split <;> rfl
    have hst : (endOf (F1 + k) o').steps = F1 + k - o'.2.left := by
      obtain ⟨r', s'⟩ := o'
      cases r' <;> simp [endOf]
      split <;> rfl
    have h1' : s.left = 0 := h1
    have h3' : o'.2.left ≤ k := h3
    rw [hout, hst]
    refine ⟨h2, ?_, ?_⟩
    · simp only [endOf]; omega
    · simp only [endOf]; omega
end Go.Proofs.YtnolhcdfknjncaaDoor

/-
  CevalMore: what stands behind its two runs.
-/
set_option linter.unusedVariables false
set_option linter.unusedSimpArgs false
namespace Go.Proofs.YtnolhcdfknjncaaDoor
open Go.RowKit

/-- the code behind the second run; behind the first -/
noncomputable def moreTail : Code := match Tryd.f4.body with
  | some (.seq _ (.seq _ (.seq _ (.seq _ c)))) => c
  | _ => .skip
noncomputable def moreTail4 : Code := match Tryd.f4.body with
  | some (.seq _ (.seq _ (.seq _ c))) => c
  | _ => .skip
/-- an end that lies in a variable -/
def EndAt (V : World) (X : Nat) (pe : PEnd) : Prop := ∃ A c, V.heap[X]? = some (.cells #[.int .i64 pe.kind, .int .i64 pe.n, .slice A pe.out.length c, .int .i64 pe.steps] 31 (0, 0)) ∧ IntsIn V.heap.size V A pe.out

set_option maxRecDepth 100000 in
set_option maxHeartbeats 8000000 in
theorem more_tail {W V : World} (hb : Below W.heap.size W V) (hr : Ready V) {X9 X10 : Nat} {pa pb : PEnd} (ha : EndAt V X9 pa) (hb2 : EndAt V X10 pb) (f sf : Int) (hsf : min f 1500 = sf)
    (hlaw : (pa.kind ≠ 3 → sameE pa pb = true ∧ pa.steps = pb.steps) ∧ (pa.kind = 3 → beginsB pb.out pa.out = true ∧ pa.steps ≤ pb.steps ∧ (pa.steps : Int) = max sf 0)) (u0 u1 u3 u4 u5 u6 u7 u8 u11 u12 u13 u14 u15 u16 u17 u18 u19 u20 u21 u22 u23 u24 u25 u26 u27 u28 u29 u30 u31 u32 u33 u34 u35 u36 u37 u38 u39 u40 u41 u42 u43 u44 u45 u46 u47 u48 u49 u50 u51 u52 u53 u54 u55 u56 u57 u58 u59 u60 u61 u62 u63 u64 u65 u66 u67 u68 u69 u70 u71 u72 : Value) :
    moreTail.wp Tryd.prog (bodyPost Tryd.prog Tryd.f4 (BoolBelow true W)) { tmps := #[u0, u1, .int .i64 f, u3, u4, u5, u6, u7, u8, .pointer (some ⟨X9, 0, none⟩), .pointer (some ⟨X10, 0, none⟩), u11, u12, u13, u14, u15, u16, u17, u18, u19, u20, u21, u22, u23, u24, u25, u26, u27, u28, u29, u30, u31, u32, u33, u34, u35, u36, u37, u38, u39, u40, u41, u42, u43, u44, u45, u46, u47, u48, u49, u50, u51, u52, u53, u54, u55, u56, u57, u58, u59, u60, u61, u62, u63, u64, u65, u66, u67, u68, u69, u70, u71, u72], defers := [] } V := by
  obtain ⟨A, c, h9, hi9⟩ := ha
  obtain ⟨B, d, h10, hi10⟩ := hb2
  have a0 : V.cell? ⟨X9, 0, none⟩ = some (.int .i64 pa.kind) := by simp [World.cell?, h9]
  have a1 : V.cell? ⟨X9, 1, none⟩ = some (.int .i64 pa.n) := by simp [World.cell?, h9]
  have a2 : V.cell? ⟨X9, 2, none⟩ = some (.slice A pa.out.length c) := by simp [World.cell?, h9]
  have a3 : V.cell? ⟨X9, 3, none⟩ = some (.int .i64 pa.steps) := by simp [World.cell?, h9]
  have b0 : V.cell? ⟨X10, 0, none⟩ = some (.int .i64 pb.kind) := by simp [World.cell?, h10]
  have b1 : V.cell? ⟨X10, 1, none⟩ = some (.int .i64 pb.n) := by simp [World.cell?, h10]
  have b2 : V.cell? ⟨X10, 2, none⟩ = some (.slice B pb.out.length d) := by simp [World.cell?, h10]
  have b3 : V.cell? ⟨X10, 3, none⟩ = some (.int .i64 pb.steps) := by simp [World.cell?, h10]
  by_cases hk : pa.kind = 3
  · obtain ⟨l1, l2, l3⟩ := hlaw.2 hk
    have hk' : (pa.kind == 3) = true := by simpa using hk
    have hk2 : (pa.kind != 3) = false := by simpa using hk
    obtain ⟨mx, hmx⟩ : ∃ mx : Int, (if sf < 0 then (0 : Int) else sf) = mx := ⟨_, rfl⟩
    have hmx1 : max sf 0 = mx := by rw [← hmx]; split <;> omega
    rw [hmx1] at l3
    have hst : ((pa.steps : Int) == mx) = true := by simpa using l3
    have hge : (pa.steps : Int) ≤ (pb.steps : Int) := by omega
    have hd : Below V.heap.size V V.drew := (Below.refl _ _).drew
    have HBG := Lib.hid (begins_any (c := d) (c' := c) V.drew hi10 hi9)
    rw [l1] at HBG
    have HSH := Lib.hid (fun (V2 : World) => (show Calls Tryd.prog 10 #[.int .i64 f] V2 fun e w' => e = .returned (.int .i64 sf) ∧ V2 = w' from hsf ▸ short_any f V2))
    have HK := Lib.hid (fun (V2 : World) (h : Below V.heap.size V V2) => knows_any V2 (hr.below h))
    have HB := Lib.hid hb
    have HC := Lib.hid (fun (V2 : World) (h : Below V.heap.size V V2) => (show V2.cell? ⟨X9, 2, none⟩ = some (.slice A pa.out.length c) ∧ V2.cell? ⟨X9, 3, none⟩ = some (.int .i64 pa.steps) ∧ V2.cell? ⟨X10, 2, none⟩ = some (.slice B pb.out.length d) ∧ V2.cell? ⟨X10, 3, none⟩ = some (.int .i64 pb.steps) from ⟨cell_behind h a2, cell_behind h a3, cell_behind h b2, cell_behind h b3⟩))
    clear hlaw l1 l2 l3 hi9 hi10 hb hr h9 h10 hmx1 hd
    obtain ⟨Q, hQ⟩ : ∃ Q, bodyPost Tryd.prog Tryd.f4 (BoolBelow true W) = Q := ⟨_, rfl⟩
    have HQ := Lib.hid hQ
    have hQp : ∀ ch a b V, Q (.panic ch) a V → Q (.panic ch) b V → True := fun _ _ _ _ _ _ => trivial
    clear hQp
    rw [hQ]
    clear hQ
    unfold moreTail Tryd.f4
    dsimp only
    go_wp2_with fail
    rw [← HQ.out]
    go_region_held2 (fun V2 => V2.cell? ⟨X9, 2, none⟩ = some (.slice A pa.out.length c) ∧ V2.cell? ⟨X9, 3, none⟩ = some (.int .i64 pa.steps) ∧ V2.cell? ⟨X10, 2, none⟩ = some (.slice B pb.out.length d) ∧ V2.cell? ⟨X10, 3, none⟩ = some (.int .i64 pb.steps))
      (first | exact HC.out _ (Below.refl _ _).drew | exact HC.out _ (below_drewN (Below.refl _ _) _) | exact HC.out _ ((below_drewN (Below.refl _ _) _).trans (hv4.mono (Nat.le_refl _))))
      ((first
        | (go_at_call 14; refine HBG.out.mono ?_; rintro e V2 ⟨rfl, n1, rfl⟩)
        | (go_at_call 10; refine (HSH.out _).mono ?_; rintro en w' ⟨rfl, rfl⟩)
        | (go_at_call 8; refine (HK.out _ (by first | exact below_drewN (Below.refl _ _) _ | exact (Below.refl _ _).drew)).mono ?_; rintro e V4 ⟨rfl, hv4⟩)))
    all_goals
      go_wp2_with fail
      (try rw [← HQ.out])
      go_ret
      refine ⟨rfl, (HB.out.trans ((below_drewN (Below.refl _ V) _).mono HB.out.size)).trans (hv4.mono ?_)⟩
      exact HB.out.size
  · obtain ⟨l1, l2⟩ := hlaw.1 hk
    have hk' : (pa.kind == 3) = false := by simpa using hk
    have hk2 : (pa.kind != 3) = true := by simpa using hk
    have HS := Lib.hid (same_any (v := .agg #[.int .i64 pa.kind, .int .i64 pa.n, .slice A pa.out.length c, .int .i64 pa.steps]) (u := .agg #[.int .i64 pb.kind, .int .i64 pb.n, .slice B pb.out.length d, .int .i64 pb.steps]) V ⟨A, c, rfl, hi9⟩ ⟨B, d, rfl, hi10⟩)
    rw [l1] at HS
    have hst : ((pa.steps : Int) == (pb.steps : Int)) = true := by simp [l2]
    have HK := Lib.hid (fun (V2 : World) (h : Below V.heap.size V V2) => knows_any V2 (hr.below h))
    have HB := Lib.hid hb
    clear hlaw l1 l2 hi9 hi10 hb hr h9 h10
    have HC := Lib.hid (fun (V2 : World) (h : Below V.heap.size V V2) => (show V2.cell? ⟨X9, 3, none⟩ = some (.int .i64 pa.steps) ∧ V2.cell? ⟨X10, 3, none⟩ = some (.int .i64 pb.steps) from ⟨cell_behind h a3, cell_behind h b3⟩))
    obtain ⟨Q, hQ⟩ : ∃ Q, bodyPost Tryd.prog Tryd.f4 (BoolBelow true W) = Q := ⟨_, rfl⟩
    have HQ := Lib.hid hQ
    rw [hQ]
    clear hQ
    unfold moreTail Tryd.f4
    dsimp only
    go_wp2_with (first
      | (go_at_call 12; refine HS.out.mono ?_; rintro e V2 ⟨rfl, hv2⟩; obtain ⟨c3, d3⟩ := HC.out _ hv2)
      | (go_at_call 8; refine (HK.out _ hv2).mono ?_; rintro e V4 ⟨rfl, hv4⟩))
    rw [← HQ.out]
    go_ret
    have h1 := HB.out.trans (hv2.mono HB.out.size)
    exact ⟨rfl, h1.trans (hv4.mono h1.size)⟩
end Go.Proofs.YtnolhcdfknjncaaDoor
