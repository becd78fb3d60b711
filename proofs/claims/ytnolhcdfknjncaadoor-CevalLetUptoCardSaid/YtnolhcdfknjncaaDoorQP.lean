/-
  3 texts of this seat in one: P1 P2 EA.
-/
import Derived.Test.YtnolhcdfknjncaaDoorQE
import Derived.Test.YtnolhcdfknjncaaDoorQL
/-
  The plain law of more fuel.
-/
set_option linter.unusedVariables false
set_option linter.unusedSimpArgs false
namespace Go.Proofs.YtnolhcdfknjncaaDoor

/-- what a state may become -/
structure Grow (s s' : St) : Prop where
  left : s'.left ≤ s.left
  out : s.out <+: s'.out
theorem Grow.refl (s : St) : Grow s s := ⟨Nat.le_refl _, List.prefix_refl _⟩
theorem Grow.trans {a b c : St} (h : Grow a b) (k : Grow b c) : Grow a c := ⟨Nat.le_trans k.left h.left, h.out.trans k.out⟩
theorem andThen_grow {s : St} {o : Out} {f : PV → St → Out} (h : Grow s o.2) (hf : ∀ v s', Grow s' (f v s').2) : Grow s (Out.andThen o f).2 := by
  obtain ⟨r, s'⟩ := o
  cases r
  · exact h.trans (hf _ _)
  all_goals exact h
section
variable {inp : List Int} {rec : Core → PEnv → St → Out} (hrec : ∀ t e s, Grow s (rec t e s).2)
include hrec
theorem callP_grow (f a : PV) (s : St) : Grow s (callP rec f a s).2 := by
  unfold callP
  cases f <;> first | exact Grow.refl _ | exact hrec _ _ _
theorem evs_grow (e : PEnv) : ∀ (cs : List Core) (acc : List PV) (s : St), Grow s (evs rec e cs acc s).2
  | [], acc, s => Grow.refl _
  | c :: cs, acc, s => by
    have h := hrec c e s
    unfold evs
    generalize rec c e s = o at h
    obtain ⟨r, s'⟩ := o
    cases r
    · exact h.trans (evs_grow e cs _ s')
    all_goals exact h
theorem primP_grow (p : Int) (l : List PV) (s : St) : Grow s (primP inp rec p l s).2 := by
  unfold primP
  simp only []
  split
  · exact ⟨Nat.le_refl _, List.prefix_refl _⟩
  split
  · split <;> exact Grow.refl _
  split
  · split
    · exact ⟨Nat.le_refl _, List.prefix_refl _⟩
    · exact Grow.refl _
  split
  · split
    · exact ⟨Nat.le_refl _, List.prefix_append _ _⟩
    · exact Grow.refl _
  split
  · unfold readP
    split <;> exact ⟨Nat.le_refl _, List.prefix_refl _⟩
  split
  · split <;> exact Grow.refl _
  split
  · have h := callP_grow hrec (l[0]?.getD default) (.int 0) s
    split
    · rename_i v s' heq
      rw [heq] at h
      exact h.trans (callP_grow hrec _ _ _)
    · exact h
  split
  · split <;> exact Grow.refl _
  · exact Grow.refl _
theorem bodyP_grow (t : Core) (e : PEnv) (s : St) : Grow s (bodyP inp rec t e s).2 := by
  unfold bodyP
  simp only []
  split
  · split <;> exact Grow.refl _
  split
  · exact Grow.refl _
  split
  · exact ⟨Nat.le_refl _, List.prefix_refl _⟩
  split
  · exact andThen_grow (hrec _ _ _) fun f s => andThen_grow (hrec _ _ _) fun a s => callP_grow hrec f a s
  split
  · exact andThen_grow (hrec _ _ _) fun f s => hrec _ _ _
  split
  · have h := hrec (t.cs[t.cs.length - 1]?.getD default) (fixEnv t.ks s.fns.length e) { s with fns := s.fns ++ fixFns (fixEnv t.ks s.fns.length e) t.ks t.cs }
    exact ⟨h.left, h.out⟩
  split
  · refine andThen_grow (hrec _ _ _) fun v s => ?_
    split
    · split <;> exact Grow.refl _
    · exact Grow.refl _
  split
  · refine andThen_grow (hrec _ _ _) fun v s => ?_
    split
    · exact hrec _ _ _
    · exact Grow.refl _
  · have h := evs_grow hrec e t.cs [] s
    split
    · rename_i r s' heq
      rw [heq] at h
      exact h
    · rename_i l s' heq
      rw [heq] at h
      split
      · exact h
      · exact h.trans (primP_grow hrec _ _ _)
end
theorem ev_grow (inp : List Int) : ∀ (n : Nat) (t : Core) (e : PEnv) (s : St), Grow s (ev inp n t e s).2
  | 0, _, _, s => Grow.refl _
  | n + 1, t, e, s => by
    unfold ev
    split
    · exact Grow.refl _
    · have h := bodyP_grow (inp := inp) (ev_grow inp n) t e { s with left := s.left - 1 }
      exact ⟨Nat.le_trans h.left (by simp), h.out⟩

/-! ### more fuel -/
def St.up (s : St) (k : Nat) : St := { s with left := s.left + k }
/-- a run with less fuel and one with k more -/
structure Rel (k : Nat) (o o' : Out) : Prop where
  whole : o.1 ≠ .cut → o' = (o.1, o.2.up k)
  cut : o.1 = .cut → o.2.left = 0 ∧ o.2.out <+: o'.2.out ∧ o'.2.left ≤ k
theorem Rel.same (k : Nat) (r : Res) (hr : r ≠ .cut) (s : St) : Rel k (r, s) (r, s.up k) := ⟨fun _ => rfl, fun h => absurd h hr⟩
theorem Rel.andThen {k : Nat} {o o' : Out} {f f' : PV → St → Out} (h : Rel k o o') (hf : ∀ v, o.1 = .val v → Rel k (f v o.2) (f' v (o.2.up k))) (hg : ∀ v s, Grow s (f' v s).2) : Rel k (Out.andThen o f) (Out.andThen o' f') := by
  obtain ⟨r, s⟩ := o
  cases r with
  | val v => rw [h.whole (by simp)]; exact hf v rfl
  | raised v => rw [h.whole (by simp)]; exact Rel.same k _ (by simp) s
  | stuck => rw [h.whole (by simp)]; exact Rel.same k _ (by simp) s
  | cut =>
    obtain ⟨h1, h2, h3⟩ := h.cut rfl
    refine ⟨fun hh => absurd rfl hh, fun _ => ?_⟩
    have hgr : Grow o'.2 (Out.andThen o' f').2 := andThen_grow (Grow.refl _) hg
    exact ⟨h1, h2.trans hgr.out, Nat.le_trans hgr.left h3⟩
section
variable {inp : List Int} {n k : Nat} {rec rec' : Core → PEnv → St → Out} (hle : ∀ t e s, Le s (rec t e s).2) (hgr : ∀ t e s, Grow s (rec' t e s).2) (hrel : ∀ t e s, s.left < n → Rel k (rec t e s) (rec' t e (s.up k)))
include hle hgr hrel
omit hle hgr in
theorem callP_rel (f a : PV) (s : St) (hs : s.left < n) : Rel k (callP rec f a s) (callP rec' f a (s.up k)) := by
  unfold callP
  cases f <;> first | exact Rel.same k _ (by simp) s | exact hrel _ _ _ hs
/-- the rows of values -/
theorem evs_rel (e : PEnv) : ∀ (cs : List Core) (acc : List PV) (s : St), s.left < n →
    (∀ l s', evs rec e cs acc s = (.inr l, s') → evs rec' e cs acc (s.up k) = (.inr l, s'.up k) ∧ s'.left < n) ∧
    (∀ r s', evs rec e cs acc s = (.inl r, s') → r ≠ .cut → evs rec' e cs acc (s.up k) = (.inl r, s'.up k)) ∧
    (∀ s', evs rec e cs acc s = (.inl .cut, s') → s'.left = 0 ∧ s'.out <+: (evs rec' e cs acc (s.up k)).2.out ∧ (evs rec' e cs acc (s.up k)).2.left ≤ k)
  | [], acc, s, hs => ⟨fun l s' h => by simp only [evs, Prod.mk.injEq, Sum.inr.injEq] at h ⊢; obtain ⟨rfl, rfl⟩ := h; exact ⟨⟨rfl, rfl⟩, hs⟩, fun r s' h => by simp [evs] at h, fun s' h => by simp [evs] at h⟩
  | c :: cs, acc, s, hs => by
    have h := hrel c e s hs
    have hl := hle c e s
    have hg := fun (s'' : St) acc' => evs_grow hgr e cs acc' s''
    unfold evs
    generalize hO : rec c e s = o at *
    generalize hO' : rec' c e (s.up k) = o' at *
    obtain ⟨r, s1⟩ := o
    cases r with
    | val v =>
      have := h.whole (by simp)
      subst this
      exact evs_rel e cs (acc ++ [v]) s1 (Nat.lt_of_le_of_lt hl.left hs)
    | raised v =>
      have := h.whole (by simp)
      subst this
      refine ⟨fun l s' h => by simp at h, fun r s' h _ => ?_, fun s' h => by simp at h⟩
      simp only [Prod.mk.injEq, Sum.inl.injEq] at h ⊢
      obtain ⟨rfl, rfl⟩ := h
      exact ⟨rfl, rfl⟩
    | stuck =>
      have := h.whole (by simp)
      subst this
      refine ⟨fun l s' h => by simp at h, fun r s' h _ => ?_, fun s' h => by simp at h⟩
      simp only [Prod.mk.injEq, Sum.inl.injEq] at h ⊢
      obtain ⟨rfl, rfl⟩ := h
      exact ⟨rfl, rfl⟩
    | cut =>
      obtain ⟨h1, h2, h3⟩ := h.cut rfl
      refine ⟨fun l s' h => by simp at h, fun r s' h hr => ?_, fun s' h => ?_⟩
      · simp only [Prod.mk.injEq, Sum.inl.injEq] at h; exact absurd h.1.symm hr
      · simp only [Prod.mk.injEq, Sum.inl.injEq, true_and] at h
        subst h
        refine ⟨h1, ?_⟩
        obtain ⟨r', s2⟩ := o'
        cases r' with
        | val v => exact ⟨h2.trans (hg s2 _).out, Nat.le_trans (hg s2 _).left h3⟩
        | raised v => exact ⟨h2, h3⟩
        | stuck => exact ⟨h2, h3⟩
        | cut => exact ⟨h2, h3⟩
theorem primP_rel (p : Int) (l : List PV) (s : St) (hs : s.left < n) : Rel k (primP inp rec p l s) (primP inp rec' p l (s.up k)) := by
  unfold primP
  simp only []
  split
  · exact Rel.same k _ (by simp) { s with cells := s.cells ++ [l[0]?.getD default] }
  split
  · split
    · exact Rel.same k _ (by simp) s
    · exact Rel.same k _ (by simp) s
  split
  · split
    · rename_i i _
      exact Rel.same k _ (by simp) { s with cells := s.cells.set i (l[1]?.getD default) }
    · exact Rel.same k _ (by simp) s
  split
  · split
    · rename_i m _
      exact Rel.same k _ (by simp) { s with out := s.out ++ [m] }
    · exact Rel.same k _ (by simp) s
  split
  · unfold readP
    by_cases hc : s.asked < inp.length
    · rw [if_pos hc, if_pos (show (s.up k).asked < inp.length from hc)]
      exact Rel.same k _ (by simp) { s with asked := s.asked + 1 }
    · rw [if_neg hc, if_neg (show ¬ (s.up k).asked < inp.length from hc)]
      exact Rel.same k _ (by simp) { s with asked := s.asked + 1 }
  split
  · split
    · exact Rel.same k _ (by simp) s
    · exact Rel.same k _ (by simp) s
  split
  · have h := callP_rel hrel (l[0]?.getD default) (.int 0) s hs
    have hl := callP_le hle (l[0]?.getD default) (.int 0) s
    generalize callP rec (l[0]?.getD default) (.int 0) s = o at *
    generalize callP rec' (l[0]?.getD default) (.int 0) (s.up k) = o' at *
    obtain ⟨r, s1⟩ := o
    cases r with
    | val v => rw [h.whole (by simp)]; exact Rel.same k _ (by simp) s1
    | raised v => rw [h.whole (by simp)]; exact callP_rel hrel _ _ s1 (Nat.lt_of_le_of_lt hl.left hs)
    | stuck => rw [h.whole (by simp)]; exact Rel.same k _ (by simp) s1
    | cut =>
      obtain ⟨h1, h2, h3⟩ := h.cut rfl
      refine ⟨fun hh => absurd rfl hh, fun _ => ⟨h1, ?_⟩⟩
      obtain ⟨r', s2⟩ := o'
      cases r' with
      | raised v =>
        have := callP_grow hgr (l[1]?.getD default) v s2
        exact ⟨h2.trans this.out, Nat.le_trans this.left h3⟩
      | val v => exact ⟨h2, h3⟩
      | stuck => exact ⟨h2, h3⟩
      | cut => exact ⟨h2, h3⟩
  split
  · split
    · exact Rel.same k _ (by simp) s
    · exact Rel.same k _ (by simp) s
  · exact Rel.same k _ (by simp) s
theorem bodyP_rel (t : Core) (e : PEnv) (s : St) (hs : s.left < n) : Rel k (bodyP inp rec t e s) (bodyP inp rec' t e (s.up k)) := by
  have hlt : ∀ {c : Core} {e' : PEnv} {s1 : St}, s1.left < n → (rec c e' s1).2.left < n := fun h => Nat.lt_of_le_of_lt (hle _ _ _).left h
  unfold bodyP
  simp only []
  split
  · split
    · exact Rel.same k _ (by simp) s
    · exact Rel.same k _ (by simp) s
  split
  · exact Rel.same k _ (by simp) s
  split
  · exact Rel.same k _ (by simp) { s with fns := s.fns ++ [⟨t.n, t.cs[0]?.getD default, e⟩] }
  split
  · exact (hrel _ _ _ hs).andThen (fun f _ => (hrel _ _ _ (hlt hs)).andThen (fun a _ => callP_rel hrel f a _ (hlt (hlt hs))) (fun a s => callP_grow hgr f a s)) (fun f s => andThen_grow (hgr _ _ _) fun a s => callP_grow hgr f a s)
  split
  · exact (hrel _ _ _ hs).andThen (fun v _ => hrel _ _ _ (hlt hs)) (fun v s => hgr _ _ _)
  split
  · exact hrel (t.cs[t.cs.length - 1]?.getD default) (fixEnv t.ks s.fns.length e) { s with fns := s.fns ++ fixFns (fixEnv t.ks s.fns.length e) t.ks t.cs } hs
  split
  · refine (hrel _ _ _ hs).andThen (fun v _ => ?_) (fun v s => ?_)
    · split
      · split
        · exact Rel.same k _ (by simp) _
        · exact Rel.same k _ (by simp) _
      · exact Rel.same k _ (by simp) _
    · split
      · split <;> exact Grow.refl _
      · exact Grow.refl _
  split
  · refine (hrel _ _ _ hs).andThen (fun v _ => ?_) (fun v s => ?_)
    · split
      · exact hrel _ _ _ (hlt hs)
      · exact Rel.same k _ (by simp) _
    · split
      · exact hgr _ _ _
      · exact Grow.refl _
  · obtain ⟨h1, h2, h3⟩ := evs_rel hle hgr hrel e t.cs [] s hs
    have hgp := fun l s => primP_grow (inp := inp) hgr t.n l s
    generalize hO : evs rec e t.cs [] s = o at *
    generalize hO' : evs rec' e t.cs [] (s.up k) = o' at *
    obtain ⟨r, s1⟩ := o
    cases r with
    | inr l =>
      obtain ⟨h4, h5⟩ := h1 l s1 rfl
      rw [h4]
      simp only []
      split
      · exact Rel.same k _ (by simp) s1
      · exact primP_rel hle hgr hrel t.n l s1 h5
    | inl r =>
      by_cases hr : r = .cut
      · subst hr
        obtain ⟨h4, h5, h6⟩ := h3 s1 rfl
        refine ⟨fun hh => absurd rfl hh, fun _ => ⟨h4, ?_⟩⟩
        obtain ⟨r', s2⟩ := o'
        cases r' with
        | inl r' => exact ⟨h5, h6⟩
        | inr l =>
          simp only []
          split
          · exact ⟨h5, h6⟩
          · exact ⟨h5.trans (hgp l s2).out, Nat.le_trans (hgp l s2).left h6⟩
      · rw [h2 r s1 rfl hr]
        exact Rel.same k r hr s1
end

theorem ev_rel (inp : List Int) (k : Nat) : ∀ (n n' : Nat), n ≤ n' → ∀ (t : Core) (e : PEnv) (s : St), s.left < n → s.left + k < n' → Rel k (ev inp n t e s) (ev inp n' t e (s.up k))
  | 0, _, _, _, _, _, h, _ => absurd h (Nat.not_lt_zero _)
  | n + 1, 0, h, _, _, _, _, _ => by omega
  | n + 1, n' + 1, hn, t, e, s, h1, h2 => by
    by_cases h0 : s.left = 0
    · have hA : ev inp (n + 1) t e s = (.cut, s) := by rw [ev, if_pos h0]
      have hg := ev_grow inp (n' + 1) t e (s.up k)
      rw [hA]
      refine ⟨fun hh => absurd rfl hh, fun _ => ⟨h0, hg.out, ?_⟩⟩
      have : (s.up k).left = k := by simp [St.up, h0]
      exact Nat.le_trans hg.left (Nat.le_of_eq this)
    · have hB : ¬ (s.up k).left = 0 := by simp only [St.up]; omega
      have hup : ({ s.up k with left := (s.up k).left - 1 } : St) = ({ s with left := s.left - 1 } : St).up k := by simp only [St.up]; congr 1; omega
      rw [ev, ev, if_neg h0, if_neg hB, hup]
      -- the steps that are left are fewer than either depth
      refine bodyP_rel (n := s.left) (ev_le inp n) (ev_grow inp n') (fun t e s' hs' => ?_) t e { s with left := s.left - 1 } (by show s.left - 1 < s.left; omega)
      exact ev_rel inp k n n' (by omega) t e s' (by omega) (by omega)

/-- **the law of more fuel** -/
theorem more_ends {t : Core} {inp : List Int} {F1 F2 : Nat} (h : F1 ≤ F2) :
    ((endOf F1 (ev inp (F1 + 1) t [] (initSt F1))).kind ≠ 3 → endOf F2 (ev inp (F2 + 1) t [] (initSt F2)) = endOf F1 (ev inp (F1 + 1) t [] (initSt F1))) ∧
    ((endOf F1 (ev inp (F1 + 1) t [] (initSt F1))).kind = 3 → (endOf F1 (ev inp (F1 + 1) t [] (initSt F1))).out <+: (endOf F2 (ev inp (F2 + 1) t [] (initSt F2))).out ∧
      (endOf F1 (ev inp (F1 + 1) t [] (initSt F1))).steps ≤ (endOf F2 (ev inp (F2 + 1) t [] (initSt F2))).steps ∧ (endOf F1 (ev inp (F1 + 1) t [] (initSt F1))).steps = F1) := by
  obtain ⟨k, rfl⟩ : ∃ k, F2 = F1 + k := ⟨F2 - F1, by omega⟩
  have hr := ev_rel inp k (F1 + 1) (F1 + k + 1) (by omega) t [] (initSt F1) (by simp [initSt]) (by simp [initSt])
  have hup : (initSt F1).up k = initSt (F1 + k) := rfl
  rw [hup] at hr
  have hl := (ev_le inp (F1 + 1) t [] (initSt F1)).left
  generalize ev inp (F1 + 1) t [] (initSt F1) = o at *
  generalize ev inp (F1 + k + 1) t [] (initSt (F1 + k)) = o' at *
  obtain ⟨r, s⟩ := o
  have hl' : s.left ≤ F1 := hl
  cases r with
  | val v =>
    rw [hr.whole (by simp)]
    refine ⟨fun _ => ?_, fun h => by simp [endOf] at h⟩
    simp only [endOf, St.up]; congr 1; omega
  | raised v =>
    rw [hr.whole (by simp)]
    refine ⟨fun _ => ?_, fun h => ?_⟩
    · have : F1 + k - (s.left + k) = F1 - s.left := by omega
      simp only [endOf, St.up, this]
    · simp only [endOf] at h; split at h <;> simp at h
  | stuck =>
    rw [hr.whole (by simp)]
    refine ⟨fun _ => ?_, fun h => by simp [endOf] at h⟩
    simp only [endOf, St.up]; congr 1; omega
  | cut =>
    obtain ⟨h1, h2, h3⟩ := hr.cut rfl
    refine ⟨fun h => by simp [endOf] at h, fun _ => ?_⟩
    have hout : (endOf (F1 + k) o').out = o'.2.out := by
      obtain ⟨r', s'⟩ := o'
      cases r' <;> simp [endOf]
      split <;> rfl
    have hst : (endOf (F1 + k) o').steps = F1 + k - o'.2.left := by
      obtain ⟨r', s'⟩ := o'
      cases r' <;> simp [endOf]
      split <;> rfl
    have h1' : s.left = 0 := h1
    have h3' : o'.2.left ≤ k := h3
    rw [hout, hst]
    refine ⟨h2, ?_, ?_⟩
    · simp only [endOf]; omega
    · simp only [endOf]; omega
end Go.Proofs.YtnolhcdfknjncaaDoor

/-
  The plain law behind CevalLet: a term runs in the same way where one more variable is known at the end, and function numbers are one up.
-/
set_option linter.unusedVariables false
set_option linter.unusedSimpArgs false
namespace Go.Proofs.YtnolhcdfknjncaaDoor

/-! ### free variables -/
def namesOf : List Int → List Int
  | x :: _ :: ks => x :: namesOf ks
  | _ => []
mutual
/-- is a variable free in a term? -/
def fr (v : Int) : Core → Prop
  | .mk k n ks cs =>
    if k = 1 then n = v else if k = 3 then n ≠ v ∧ frs v cs else if k = 5 then fr5 v n cs
    else if k = 6 then ¬ v ∈ namesOf ks ∧ (frF v ks cs ∨ frLast v cs) else frs v cs
def frs (v : Int) : List Core → Prop
  | [] => False
  | c :: cs => fr v c ∨ frs v cs
def fr5 (v n : Int) : List Core → Prop
  | [] => False
  | c :: cs => fr v c ∨ (n ≠ v ∧ frs v cs)
def frF (v : Int) : List Int → List Core → Prop
  | _ :: p :: ks, c :: cs => (p ≠ v ∧ fr v c) ∨ frF v ks cs
  | _, _ => False
def frLast (v : Int) : List Core → Prop
  | [] => False
  | c :: cs => (cs = [] ∧ fr v c) ∨ frLast v cs
end
theorem fr_default (v : Int) : ¬ fr v default := by
  show ¬ fr v (.mk 0 0 [] [])
  simp [fr, frs]
theorem frs_get {v : Int} {cs : List Core} {i : Nat} (h : fr v (cs[i]?.getD default)) : frs v cs := by
  induction cs generalizing i with
  | nil => simp at h; exact absurd h (fr_default v)
  | cons c cs ih =>
    cases i with
    | zero => exact .inl (by simpa using h)
    | succ i => exact .inr (ih (by simpa using h))
theorem frLast_get {v : Int} {cs : List Core} (h : fr v (cs[cs.length - 1]?.getD default)) : frLast v cs := by
  induction cs with
  | nil => simp at h; exact absurd h (fr_default v)
  | cons c cs ih =>
    cases cs with
    | nil => exact .inl ⟨rfl, by simpa using h⟩
    | cons d cs => exact .inr (ih (by simpa using h))

/-! ### one up -/
mutual
def PV.up : PV → PV
  | .int n => .int n
  | .blk t ks => .blk t (upL ks)
  | .fn i => .fn (i + 1)
  | .ref i => .ref i
def upL : List PV → List PV
  | [] => []
  | v :: l => v.up :: upL l
end
theorem upL_map (l : List PV) : upL l = l.map PV.up := by
  induction l with
  | nil => rfl
  | cons v l ih => simp [upL, ih]
def Res.up : Res → Res
  | .val v => .val v.up
  | .raised v => .raised v.up
  | .stuck => .stuck
  | .cut => .cut
theorem key_up (v : PV) : keyOf v.up = keyOf v := by cases v <;> rfl
theorem default_up : (default : PV).up = default := rfl
theorem getD_up (l : List PV) (i : Nat) : ((l.map PV.up)[i]?.getD default) = (l[i]?.getD default).up := by
  rw [List.getElem?_map]
  cases l[i]? <;> rfl
section
variable (z : Int × PV) (g : PFn)
def upE (e : PEnv) : PEnv := e.map (fun p => (p.1, p.2.up)) ++ [z]
def upF (f : PFn) : PFn := ⟨f.param, f.body, upE z f.env⟩
def upS (s : St) : St := ⟨s.left, g :: s.fns.map (upF z), s.cells.map PV.up, s.out, s.asked⟩
def upO (o : Out) : Out := (o.1.up, upS z g o.2)
def EOK (t : Core) (e : PEnv) : Prop := fr z.1 t → z.1 ∈ e.map (·.1)
def FOK (f : PFn) : Prop := fr z.1 f.body → z.1 = f.param ∨ z.1 ∈ f.env.map (·.1)
def SOK (s : St) : Prop := ∀ f ∈ s.fns, FOK z f
end
section
variable {z : Int × PV} {g : PFn}
theorem lookup_up {e : PEnv} {x : Int} (h : x = z.1 → z.1 ∈ e.map (·.1)) : lookup (upE z e) x = (lookup e x).map PV.up := by
  induction e with
  | nil =>
    have hx : x ≠ z.1 := fun hh => by simpa using h hh
    simp [lookup, upE, List.find?, Ne.symm hx]
  | cons p e ih =>
    by_cases hp : p.1 = x
    · simp [lookup, upE, hp]
    · have hpb : (p.1 == x) = false := by simpa using hp
      have ih := ih (fun hh => by
        have := h hh
        simp only [List.map_cons, List.mem_cons] at this
        rcases this with h1 | h1
        · exact absurd (h1.symm.trans hh.symm) hp
        · exact h1)
      simpa [lookup, upE, hpb] using ih
/-- two outcomes that go together -/
def Sim (z : Int × PV) (g : PFn) (o o' : Out) : Prop := o' = upO z g o ∧ SOK z o.2
theorem Sim.mk (r : Res) {s : St} (h : SOK z s) : Sim z g (r, s) (r.up, upS z g s) := ⟨rfl, h⟩
theorem Sim.andThen {o o' : Out} {f f' : PV → St → Out} (h : Sim z g o o') (hf : ∀ v s, SOK z s → Sim z g (f v s) (f' v.up (upS z g s))) : Sim z g (Out.andThen o f) (Out.andThen o' f') := by
  obtain ⟨r, s⟩ := o
  obtain ⟨rfl, hs⟩ := h
  cases r with
  | val v => exact hf v s hs
  | raised v => exact Sim.mk (.raised v) hs
  | stuck => exact Sim.mk .stuck hs
  | cut => exact Sim.mk .cut hs
section
variable {inp : List Int} {rec : Core → PEnv → St → Out}
  (hrec : ∀ t e s, EOK z t e → SOK z s → Sim z g (rec t e s) (rec t (upE z e) (upS z g s)))
  (hdef : ∀ e e' s, SOK z s → Sim z g (rec default e s) (rec default e' (upS z g s)))
include hrec hdef
theorem callP_sim (f a : PV) (s : St) (hs : SOK z s) : Sim z g (callP rec f a s) (callP rec f.up a.up (upS z g s)) := by
  cases f with
  | fn i =>
    simp only [callP, PV.up, upS, List.getElem?_cons_succ, List.getElem?_map]
    cases hi : s.fns[i]? with
    | none =>
      simp only [Option.map_none, Option.getD_none]
      exact hdef _ _ s hs
    | some f =>
      simp only [Option.map_some, Option.getD_some]
      have hf := hs f (List.mem_of_getElem? hi)
      have := hrec f.body ((f.param, a) :: f.env) s (fun hh => by
        rcases hf hh with h1 | h1
        · simp [h1]
        · exact List.mem_cons_of_mem _ h1) hs
      exact this
  | int n => exact Sim.mk .stuck hs
  | blk t l => exact Sim.mk .stuck hs
  | ref i => exact Sim.mk .stuck hs
omit hdef in
theorem evs_sim (e : PEnv) : ∀ (cs : List Core) (acc : List PV) (s : St), (∀ c ∈ cs, EOK z c e) → SOK z s →
    (∀ l s', evs rec e cs acc s = (.inr l, s') → evs rec (upE z e) cs (acc.map PV.up) (upS z g s) = (.inr (l.map PV.up), upS z g s') ∧ SOK z s') ∧
    (∀ r s', evs rec e cs acc s = (.inl r, s') → evs rec (upE z e) cs (acc.map PV.up) (upS z g s) = (.inl r.up, upS z g s') ∧ SOK z s')
  | [], acc, s, _, hs => ⟨fun l s' h => by simp only [evs, Prod.mk.injEq, Sum.inr.injEq] at h ⊢; obtain ⟨rfl, rfl⟩ := h; exact ⟨⟨rfl, rfl⟩, hs⟩, fun r s' h => by simp [evs] at h⟩
  | c :: cs, acc, s, he, hs => by
    have h := hrec c e s (he c (by simp)) hs
    unfold evs
    generalize hO : rec c e s = o at *
    obtain ⟨r, s1⟩ := o
    obtain ⟨h1, h2⟩ := h
    rw [h1]
    cases r with
    | val v =>
      have := evs_sim e cs (acc ++ [v]) s1 (fun c hc => he c (List.mem_cons_of_mem _ hc)) h2
      simpa [upO, Res.up] using this
    | raised v =>
      refine ⟨fun l s' h => by simp at h, fun r s' h => ?_⟩
      simp only [Prod.mk.injEq, Sum.inl.injEq] at h
      obtain ⟨rfl, rfl⟩ := h
      exact ⟨rfl, h2⟩
    | stuck =>
      refine ⟨fun l s' h => by simp at h, fun r s' h => ?_⟩
      simp only [Prod.mk.injEq, Sum.inl.injEq] at h
      obtain ⟨rfl, rfl⟩ := h
      exact ⟨rfl, h2⟩
    | cut =>
      refine ⟨fun l s' h => by simp at h, fun r s' h => ?_⟩
      simp only [Prod.mk.injEq, Sum.inl.injEq] at h
      obtain ⟨rfl, rfl⟩ := h
      exact ⟨rfl, h2⟩
theorem primP_sim (p : Int) (l : List PV) (s : St) (hs : SOK z s) : Sim z g (primP inp rec p l s) (primP inp rec p (l.map PV.up) (upS z g s)) := by
  unfold primP
  simp only [getD_up]
  generalize l[0]?.getD default = a
  generalize l[1]?.getD default = b
  split
  · refine ⟨?_, hs⟩
    simp [upO, upS, Res.up, PV.up]
  split
  · cases a with
    | ref i =>
      refine ⟨?_, hs⟩
      simp only [PV.up, upO, upS, Res.up, getD_up]
    | _ => exact Sim.mk .stuck hs
  split
  · cases a with
    | ref i =>
      refine ⟨?_, hs⟩
      simp [PV.up, upO, upS, Res.up, List.map_set]
    | _ => exact Sim.mk .stuck hs
  split
  · cases a with
    | int n => exact ⟨rfl, hs⟩
    | _ => exact Sim.mk .stuck hs
  split
  · unfold readP
    by_cases hc : s.asked < inp.length
    · rw [if_pos hc, if_pos (show (upS z g s).asked < inp.length from hc)]
      exact ⟨rfl, hs⟩
    · rw [if_neg hc, if_neg (show ¬ (upS z g s).asked < inp.length from hc)]
      exact ⟨rfl, hs⟩
  split
  · rw [key_up]
    cases keyOf a with
    | some k => exact Sim.mk (.raised a) hs
    | none => exact Sim.mk .stuck hs
  split
  · have h := callP_sim hrec hdef a (.int 0) s hs
    have hi : (PV.int 0).up = .int 0 := rfl
    rw [hi] at h
    generalize callP rec a (.int 0) s = o at *
    obtain ⟨h1, h2⟩ := h
    rw [h1]
    obtain ⟨r, s1⟩ := o
    cases r with
    | raised v => exact callP_sim hrec hdef b v s1 h2
    | val v => exact Sim.mk (.val v) h2
    | stuck => exact Sim.mk .stuck h2
    | cut => exact Sim.mk .cut h2
  · cases a with
    | int x =>
      cases b with
      | int y =>
        simp only [PV.up]
        cases doP p x y with
        | some n => exact Sim.mk (.val (.int n)) hs
        | none => exact Sim.mk (.raised (.int 0)) hs
      | _ => exact Sim.mk .stuck hs
    | _ => exact Sim.mk .stuck hs
end
theorem fixEnv_up : ∀ (ks : List Int) (i : Nat) (e : PEnv), fixEnv ks (i + 1) (upE z e) = upE z (fixEnv ks i e)
  | [], i, e => rfl
  | [_], i, e => rfl
  | x :: _ :: ks, i, e => by
    have := fixEnv_up ks (i + 1) ((x, .fn i) :: e)
    simpa [fixEnv, upE, PV.up] using this
theorem fixEnv_dom : ∀ (ks : List Int) (i : Nat) (e : PEnv) (x : Int), (x ∈ namesOf ks ∨ x ∈ e.map (·.1)) → x ∈ (fixEnv ks i e).map (·.1)
  | [], i, e, x, h => by simpa [namesOf, fixEnv] using h
  | [_], i, e, x, h => by simpa [namesOf, fixEnv] using h
  | y :: _ :: ks, i, e, x, h => by
    simp only [fixEnv]
    refine fixEnv_dom ks (i + 1) _ x ?_
    simp only [namesOf, List.mem_cons, List.map_cons] at h ⊢
    rcases h with (h | h) | h
    · exact .inr (.inl h)
    · exact .inl h
    · exact .inr (.inr h)
theorem fixFns_up (e : PEnv) : ∀ (ks : List Int) (cs : List Core), fixFns (upE z e) ks cs = (fixFns e ks cs).map (upF z)
  | [], _ => by simp [fixFns]
  | [_], _ => by simp [fixFns]
  | _ :: _ :: _, [] => by simp [fixFns]
  | x :: p :: ks, c :: cs => by
    simp [fixFns, fixFns_up e ks cs, upF]
theorem fixFns_ok (e : PEnv) : ∀ (ks : List Int) (cs : List Core), (frF z.1 ks cs → z.1 ∈ e.map (·.1)) → ∀ f ∈ fixFns e ks cs, FOK z f
  | [], _, _, f, hf => by simp [fixFns] at hf
  | [_], _, _, f, hf => by simp [fixFns] at hf
  | _ :: _ :: _, [], _, f, hf => by simp [fixFns] at hf
  | x :: p :: ks, c :: cs, h, f, hf => by
    simp only [fixFns, List.mem_cons] at hf
    rcases hf with rfl | hf
    · intro hb
      by_cases hp : z.1 = p
      · exact .inl hp
      · exact .inr (h (.inl ⟨fun hh => hp hh.symm, hb⟩))
    · exact fixFns_ok e ks cs (fun hh => h (.inr hh)) f hf
section
variable {inp : List Int} {rec : Core → PEnv → St → Out}
  (hrec : ∀ t e s, EOK z t e → SOK z s → Sim z g (rec t e s) (rec t (upE z e) (upS z g s)))
  (hdef : ∀ e e' s, SOK z s → Sim z g (rec default e s) (rec default e' (upS z g s)))
include hrec hdef
theorem bodyP_sim (t : Core) (e : PEnv) (s : St) (he : EOK z t e) (hs : SOK z s) : Sim z g (bodyP inp rec t e s) (bodyP inp rec t (upE z e) (upS z g s)) := by
  obtain ⟨k, n, ks, cs⟩ := t
  unfold EOK at he
  unfold bodyP
  simp only [Core.k, Core.n, Core.ks, Core.cs]
  by_cases h1 : k = 1
  · simp only [h1, ↓reduceIte]
    simp only [fr, if_pos h1] at he
    rw [lookup_up he]
    cases lookup e n with
    | some v => exact Sim.mk (.val v) hs
    | none => exact Sim.mk .stuck hs
  simp only [h1, ↓reduceIte]
  by_cases h2 : k = 2
  · simp only [h2, ↓reduceIte]
    exact Sim.mk (.val (.int n)) hs
  simp only [h2, ↓reduceIte]
  by_cases h3 : k = 3
  · simp only [h3, ↓reduceIte]
    simp only [fr, if_neg h1, if_pos h3] at he
    refine ⟨?_, ?_⟩
    · simp [upO, upS, Res.up, PV.up, upF]
    · intro f hf
      simp only [List.mem_append, List.mem_singleton] at hf
      rcases hf with hf | rfl
      · exact hs f hf
      · intro hb
        by_cases hp : z.1 = n
        · exact .inl hp
        · exact .inr (he ⟨fun hh => hp hh.symm, frs_get hb⟩)
  simp only [h3, ↓reduceIte]
  by_cases h4 : k = 4
  · simp only [h4, ↓reduceIte]
    have h5 : ¬ k = 5 := by omega
    have h6 : ¬ k = 6 := by omega
    simp only [fr, if_neg h1, if_neg h3, if_neg h5, if_neg h6] at he
    exact (hrec _ e s (fun hh => he (frs_get hh)) hs).andThen fun f s hs => (hrec _ e s (fun hh => he (frs_get hh)) hs).andThen fun a s hs => callP_sim hrec hdef f a s hs
  simp only [h4, ↓reduceIte]
  by_cases h5 : k = 5
  · simp only [h5, ↓reduceIte]
    simp only [fr, if_neg h1, if_neg h3, if_pos h5] at he
    refine (hrec _ e s (fun hh => he ?_) hs).andThen fun v s hs => ?_
    · cases cs with
      | nil => exact absurd (by simpa using hh) (fr_default z.1)
      | cons c cs => exact .inl (by simpa using hh)
    · refine hrec (cs[1]?.getD default) ((n, v) :: e) s (fun hh => ?_) hs
      by_cases hp : n = z.1
      · simp [hp]
      · refine List.mem_cons_of_mem _ (he ?_)
        cases cs with
        | nil => exact absurd (by simpa using hh) (fr_default z.1)
        | cons c cs => exact .inr ⟨hp, frs_get (i := 0) (by simpa using hh)⟩
  simp only [h5, ↓reduceIte]
  by_cases h6 : k = 6
  · simp only [h6, ↓reduceIte]
    simp only [fr, if_neg h1, if_neg h3, if_neg h5, if_pos h6] at he
    have hlen : (upS z g s).fns.length = s.fns.length + 1 := by simp [upS]
    rw [hlen, fixEnv_up]
    have hdom : (frF z.1 ks cs ∨ frLast z.1 cs) → z.1 ∈ (fixEnv ks s.fns.length e).map (·.1) := fun hh => by
      by_cases hn : z.1 ∈ namesOf ks
      · exact fixEnv_dom ks _ e _ (.inl hn)
      · exact fixEnv_dom ks _ e _ (.inr (he ⟨hn, hh⟩))
    have hst : (⟨(upS z g s).left, (upS z g s).fns ++ fixFns (upE z (fixEnv ks s.fns.length e)) ks cs, (upS z g s).cells, (upS z g s).out, (upS z g s).asked⟩ : St) = upS z g { s with fns := s.fns ++ fixFns (fixEnv ks s.fns.length e) ks cs } := by
      simp [upS, fixFns_up]
    rw [hst]
    refine hrec _ _ _ (fun hh => hdom (.inr (frLast_get hh))) ?_
    intro f hf
    simp only [List.mem_append] at hf
    rcases hf with hf | hf
    · exact hs f hf
    · exact fixFns_ok _ ks cs (fun hh => hdom (.inl hh)) f hf
  simp only [h6, ↓reduceIte]
  simp only [fr, if_neg h1, if_neg h3, if_neg h5, if_neg h6] at he
  by_cases h8 : k = 8
  · simp only [h8, ↓reduceIte]
    refine (hrec _ e s (fun hh => he (frs_get hh)) hs).andThen fun v s hs => ?_
    cases v with
    | blk tg l =>
      simp only [PV.up, upL_map, List.length_map, getD_up]
      by_cases hn : n < (l.length : Int)
      · simp only [hn, ↓reduceIte]
        exact Sim.mk (.val _) hs
      · simp only [hn, ↓reduceIte]
        exact Sim.mk .stuck hs
    | _ => exact Sim.mk .stuck hs
  simp only [h8, ↓reduceIte]
  by_cases h9 : k = 9
  · simp only [h9, ↓reduceIte]
    refine (hrec _ e s (fun hh => he (frs_get hh)) hs).andThen fun v s hs => ?_
    rw [key_up]
    cases keyOf v with
    | some key => exact hrec _ e s (fun hh => he (frs_get hh)) hs
    | none => exact Sim.mk .stuck hs
  simp only [h9, ↓reduceIte]
  have hc : ∀ c ∈ cs, EOK z c e := fun c hc hh => by
    obtain ⟨i, hi, rfl⟩ := List.getElem_of_mem hc
    exact he (frs_get (i := i) (by simpa [hi] using hh))
  obtain ⟨ha, hb⟩ := evs_sim hrec e cs [] s hc hs
  generalize evs rec e cs [] s = o at *
  obtain ⟨r, s1⟩ := o
  cases r with
  | inl r =>
    obtain ⟨h7, h8⟩ := hb r s1 rfl
    simp only [List.map_nil] at h7
    rw [h7]
    exact ⟨rfl, h8⟩
  | inr l =>
    obtain ⟨h7, h8⟩ := ha l s1 rfl
    simp only [List.map_nil] at h7
    rw [h7]
    by_cases h10 : k = 7
    · simp only [h10, ↓reduceIte]
      refine ⟨?_, h8⟩
      simp [upO, Res.up, PV.up, upL_map]
    · simp only [h10, ↓reduceIte]
      exact primP_sim hrec hdef n l s1 h8
end
theorem ev_default (inp : List Int) : ∀ (n : Nat) (e e' : PEnv) (s : St), SOK z s → Sim z g (ev inp n default e s) (ev inp n default e' (upS z g s))
  | 0, _, _, s, hs => Sim.mk .cut hs
  | n + 1, e, e', s, hs => by
    show Sim z g (if s.left = 0 then (.cut, s) else bodyP inp (ev inp n) (.mk 0 0 [] []) e { s with left := s.left - 1 }) (if s.left = 0 then (.cut, upS z g s) else bodyP inp (ev inp n) (.mk 0 0 [] []) e' { upS z g s with left := s.left - 1 })
    split
    · exact Sim.mk .cut hs
    · exact ⟨rfl, hs⟩
/-- **the simulation** -/
theorem ev_sim (inp : List Int) : ∀ (n : Nat) (t : Core) (e : PEnv) (s : St), EOK z t e → SOK z s → Sim z g (ev inp n t e s) (ev inp n t (upE z e) (upS z g s))
  | 0, t, e, s, he, hs => Sim.mk .cut hs
  | n + 1, t, e, s, he, hs => by
    rw [ev, ev]
    show Sim z g _ (if s.left = 0 then _ else _)
    split
    · exact Sim.mk .cut hs
    · exact bodyP_sim (inp := inp) (fun t e s => ev_sim inp n t e s) (ev_default inp n) t e { s with left := s.left - 1 } he hs
end

/-! ### the three runs -/
def appT (v : Int) (t : Core) : Core := .mk 4 0 [] [.mk 3 v [] [t], .mk 2 1 [] []]
def letT (v : Int) (t : Core) : Core := .mk 5 v [] [t, .mk 1 v [] []]
theorem app_run (inp : List Int) (v : Int) (t : Core) (N : Nat) :
    ev inp (N + 4) (appT v t) [] (initSt (N + 3)) = ev inp (N + 3) t [(v, .int 1)] ⟨N, [⟨v, t, []⟩], [], [], 0⟩ := by
  rw [ev, if_neg (by simp [initSt])]
  show Out.andThen (ev inp (N + 2 + 1) (.mk 3 v [] [t]) [] ⟨N + 2, [], [], [], 0⟩) (fun f s => Out.andThen (ev inp (N + 2 + 1) (.mk 2 1 [] []) [] s) fun a s => callP (ev inp (N + 3)) f a s) = _
  rw [ev, if_neg (by simp)]
  show Out.andThen (ev inp (N + 2 + 1) (.mk 2 1 [] []) [] ⟨N + 1, [⟨v, t, []⟩], [], [], 0⟩) (fun a s => callP (ev inp (N + 3)) (.fn 0) a s) = _
  rw [ev, if_neg (by simp)]
  rfl
theorem let_run (inp : List Int) (v : Int) (t : Core) (N : Nat) :
    ev inp (N + 3) (letT v t) [] (initSt (N + 2)) = Out.andThen (ev inp (N + 2) t [] (initSt (N + 1))) fun w s => ev inp (N + 2) (.mk 1 v [] []) [(v, w)] s := by
  rw [ev, if_neg (by simp [initSt])]
  rfl
theorem var_run (inp : List Int) (v : Int) (w : PV) (n : Nat) (s : St) (h : s.left ≠ 0) : ev inp (n + 1) (.mk 1 v [] []) [(v, w)] s = (.val w, { s with left := s.left - 1 }) := by
  rw [ev, if_neg h]
  simp [bodyP, Core.k, Core.n, lookup]
theorem up_zero (s : St) : s.up 0 = s := rfl
/-- **CevalLet's plain law** -/
theorem let_ends {inp : List Int} {v : Int} {t : Core} (hv : ¬ fr v t) (N : Nat) (hk : (endOf N (ev inp (N + 1) t [] (initSt N))).kind ≠ 3) :
    ∃ k n out st, endOf N (ev inp (N + 1) t [] (initSt N)) = ⟨k, n, out, st⟩ ∧ endOf (N + 3) (ev inp (N + 4) (appT v t) [] (initSt (N + 3))) = ⟨k, n, out, st + 3⟩ ∧
      ∃ st', endOf (N + 2) (ev inp (N + 3) (letT v t) [] (initSt (N + 2))) = ⟨k, n, out, st'⟩ ∧ (k = 1 → st' = st + 2) := by
  have hcut : (ev inp (N + 1) t [] (initSt N)).1 ≠ .cut := by
    intro h
    apply hk
    generalize ev inp (N + 1) t [] (initSt N) = o at h
    obtain ⟨r, s⟩ := o
    obtain rfl : r = .cut := h
    rfl
  have h0 := (ev_rel inp 0 (N + 1) (N + 3) (by omega) t [] (initSt N) (by simp [initSt]) (by simp [initSt])).whole hcut
  have h1 := (ev_rel inp 1 (N + 1) (N + 2) (by omega) t [] (initSt N) (by simp [initSt]) (by simp [initSt])).whole hcut
  have hl := (ev_le inp (N + 1) t [] (initSt N)).left
  have hs := ev_sim (z := (v, .int 1)) (g := ⟨v, t, []⟩) inp (N + 3) t [] (initSt N) (fun h => absurd h hv) (by intro f hf; simp [initSt] at hf)
  have hup1 : (initSt N).up 1 = initSt (N + 1) := rfl
  simp only [up_zero] at h0
  rw [hup1] at h1
  have hsim := hs.1
  have he : upE (v, .int 1) [] = [(v, PV.int 1)] := rfl
  have hst : upS (v, .int 1) ⟨v, t, []⟩ (initSt N) = ⟨N, [⟨v, t, []⟩], [], [], 0⟩ := rfl
  rw [he, hst, h0] at hsim
  rw [app_run, let_run, hsim, h1]
  clear hsim hs he hst h0 h1 hk
  generalize ev inp (N + 1) t [] (initSt N) = o at *
  obtain ⟨r, s⟩ := o
  have hl' : s.left ≤ N := hl
  have e3 : N + 3 - s.left = N - s.left + 3 := by omega
  cases r with
  | cut => exact absurd rfl hcut
  | val w =>
    refine ⟨1, 0, s.out, N - s.left, rfl, ?_, N + 2 - s.left, ?_, fun _ => by omega⟩
    · simp [endOf, upO, upS, Res.up, e3]
    · show endOf (N + 2) (ev inp (N + 1 + 1) (.mk 1 v [] []) [(v, w)] (s.up 1)) = _
      rw [var_run _ _ _ _ _ (by simp [St.up])]
      simp [endOf, St.up]
  | stuck => exact ⟨4, 0, s.out, N - s.left, rfl, by simp [endOf, upO, upS, Res.up, e3], _, rfl, fun h => by simp at h⟩
  | raised w =>
    by_cases hw : 0 ≤ (keyOf w).getD 0
    · exact ⟨2, (keyOf w).getD 0, s.out, N - s.left, by simp only [endOf, if_pos hw], by simp [endOf, upO, upS, Res.up, key_up, e3, hw], N + 2 - (s.left + 1), by simp [endOf, Out.andThen, St.up, hw], fun h => by simp at h⟩
    · exact ⟨4, 0, s.out, N - s.left, by simp only [endOf, if_neg hw], by simp [endOf, upO, upS, Res.up, key_up, e3, hw], N + 2 - (s.left + 1), by simp [endOf, Out.andThen, St.up, hw], fun h => by simp at h⟩
end Go.Proofs.YtnolhcdfknjncaaDoor

/-
  An end that lies in a variable.
-/
set_option linter.unusedVariables false
set_option linter.unusedSimpArgs false
namespace Go.Proofs.YtnolhcdfknjncaaDoor
open Go.RowKit

/-- an end that lies in a variable -/
def EndAt (V : World) (X : Nat) (pe : PEnd) : Prop := ∃ A c, V.heap[X]? = some (.cells #[.int .i64 pe.kind, .int .i64 pe.n, .slice A pe.out.length c, .int .i64 pe.steps] 31 (0, 0)) ∧ IntsIn V.heap.size V A pe.out

theorem EndAt.below {V V2 : World} {X : Nat} {pe : PEnd} (h : EndAt V X pe) (hb : Below V.heap.size V V2) : EndAt V2 X pe := by
  obtain ⟨A, c, h1, hi⟩ := h
  have hX : X < V.heap.size := by
    rcases Nat.lt_or_ge X V.heap.size with h | h
    · exact h
    · rw [Array.getElem?_eq_none (by omega)] at h1; cases h1
  exact ⟨A, c, (hb.block X hX).trans h1, (hi.below hb).mono hb.size⟩
theorem end_zero (V V2 : World) (hb : Below (V.alloc (.cells #[.int .i64 0, .int .i64 0, .slice none 0 0, .int .i64 0] 31)).drew.heap.size (V.alloc (.cells #[.int .i64 0, .int .i64 0, .slice none 0 0, .int .i64 0] 31)).drew V2) : V2.heap[V.heap.size]? = some (.cells #[.int .i64 0, .int .i64 0, .slice none 0 0, .int .i64 0] 31 (0, 0)) :=
  (hb.block V.heap.size (show V.heap.size < (V.alloc (.cells #[.int .i64 0, .int .i64 0, .slice none 0 0, .int .i64 0] 31)).heap.size from by rw [World.size_alloc]; exact Nat.lt_succ_self _)).trans (World.alloc_heap_new V _)
/-- the run first, its end then laid -/
theorem end_new {V2 : World} {B : Option Addr} {d : Nat} {pb : PEnd} (hE : EndV V2 pb (.agg #[.int .i64 pb.kind, .int .i64 pb.n, .slice B pb.out.length d, .int .i64 pb.steps])) :
    EndAt (V2.alloc (.cells #[.int .i64 pb.kind, .int .i64 pb.n, .slice B pb.out.length d, .int .i64 pb.steps] 31)) V2.heap.size pb := by
  have FE := hE.below (w' := V2.alloc (.cells #[.int .i64 pb.kind, .int .i64 pb.n, .slice B pb.out.length d, .int .i64 pb.steps] 31)) ((Below.refl _ _).alloc (Nat.le_refl _) _)
  obtain ⟨A', c', heq, hi⟩ := FE
  simp only [Value.agg.injEq, Array.mk.injEq, List.cons.injEq, Value.slice.injEq, true_and, and_true] at heq
  obtain ⟨rfl, rfl⟩ := heq
  exact ⟨_, _, World.alloc_heap_new V2 _, hi⟩
/-- the end's place first, filled behind the run -/
theorem end_set {V V2 : World} {B : Option Addr} {d : Nat} {pb : PEnd} (hb : Below (V.alloc (.cells #[.int .i64 0, .int .i64 0, .slice none 0 0, .int .i64 0] 31)).drew.heap.size (V.alloc (.cells #[.int .i64 0, .int .i64 0, .slice none 0 0, .int .i64 0] 31)).drew V2) (hlo : ∀ a, B = some a → (V.alloc (.cells #[.int .i64 0, .int .i64 0, .slice none 0 0, .int .i64 0] 31)).drew.heap.size ≤ a.block) (hE : EndV V2 pb (.agg #[.int .i64 pb.kind, .int .i64 pb.n, .slice B pb.out.length d, .int .i64 pb.steps])) :
    EndAt ((((V2.setCell ⟨V.heap.size, 0, none⟩ (.int .i64 pb.kind)).setCell ⟨V.heap.size, 1, none⟩ (.int .i64 pb.n)).setCell ⟨V.heap.size, 2, none⟩ (.slice B pb.out.length d)).setCell ⟨V.heap.size, 3, none⟩ (.int .i64 pb.steps)) V.heap.size pb := by
  have hz := end_zero V V2 hb
  obtain ⟨A', c', heq, hi1, hi2⟩ := hE
  simp only [Value.agg.injEq, Array.mk.injEq, List.cons.injEq, Value.slice.injEq, true_and, and_true] at heq
  obtain ⟨rfl, rfl⟩ := heq
  refine ⟨B, d, ?_, hi1, ?_⟩
  · rw [heap_set_self (heap_set_self (heap_set_self (heap_set_self hz 0 _) 1 _) 2 _) 3 _]; rfl
  · rcases hi2 with h0 | ⟨b, o, rfl, hlt, hc⟩
    · exact .inl h0
    · have hb := hlo _ rfl
      have hs : (V.alloc (.cells #[.int .i64 0, .int .i64 0, .slice none 0 0, .int .i64 0] 31)).drew.heap.size = V.heap.size + 1 := by show (V.alloc _).heap.size = _; rw [World.size_alloc]
      have hne : b ≠ V.heap.size := by
        have : V.heap.size + 1 ≤ b := hs ▸ hb
        omega
      refine .inr ⟨b, o, rfl, by simpa [World.setCell] using hlt, fun j hj => ?_⟩
      refine (cell_of_heap ?_ _).trans (hc j hj)
      rw [heap_set_ne hne, heap_set_ne hne, heap_set_ne hne, heap_set_ne hne]

end Go.Proofs.YtnolhcdfknjncaaDoor
