/-
  The plain evaluator: steps that are left, and what is printed.
-/
import Derived.Test.YtnolhcdfknjncaaDoorE0
set_option linter.unusedVariables false
set_option linter.unusedSimpArgs false
namespace Go.Proofs.YtnolhcdfknjncaaDoor

structure Le (s s' : St) (k : Nat := 0) : Prop where
  left : s'.left ≤ s.left
  out : s'.out.length + s'.left ≤ s.out.length + s.left + k
theorem Le.refl (s : St) (k : Nat) : Le s s k := ⟨Nat.le_refl _, by omega⟩
theorem Le.trans {a b c : St} {k l : Nat} (h : Le a b k) (h' : Le b c l) : Le a c (k + l) := ⟨Nat.le_trans h'.left h.left, by have := h.out; have := h'.out; omega⟩
theorem Le.mono {a b : St} {k l : Nat} (h : Le a b k) (hkl : k ≤ l) : Le a b l := ⟨h.left, by have := h.out; omega⟩
section
variable {inp : List Int} {rec : Core → PEnv → St → Out} (hrec : ∀ t e s, Le s (rec t e s).2)
include hrec
theorem callP_le (f a : PV) (s : St) : Le s (callP rec f a s).2 := by
  unfold callP
  cases f <;> first | exact Le.refl _ _ | exact hrec _ _ _
theorem evs_le (e : PEnv) : ∀ (cs : List Core) (acc : List PV) (s : St), Le s (evs rec e cs acc s).2
  | [], acc, s => Le.refl _ _
  | c :: cs, acc, s => by
    have h := hrec c e s
    unfold evs
    generalize rec c e s = o at h
    obtain ⟨r, s'⟩ := o
    cases r
    · exact h.trans (evs_le e cs _ s')
    all_goals exact h
omit hrec in
theorem andThen_le {s : St} {o : Out} {f : PV → St → Out} {k : Nat} (h : Le s o.2) (hf : ∀ v s', Le s' (f v s').2 k) : Le s (Out.andThen o f).2 k := by
  obtain ⟨r, s'⟩ := o
  cases r
  · exact (h.trans (hf _ _)).mono (by omega)
  all_goals exact h.mono (by omega)
theorem primP_le (p : Int) (l : List PV) (s : St) : Le s (primP inp rec p l s).2 1 := by
  unfold primP
  simp only []
  split
  · exact ⟨Nat.le_refl _, Nat.le_add_right _ _⟩
  split
  · split <;> exact Le.refl _ _
  split
  · split
    · exact ⟨Nat.le_refl _, Nat.le_add_right _ _⟩
    · exact Le.refl _ _
  split
  · split
    · exact ⟨Nat.le_refl _, by simp; omega⟩
    · exact Le.refl _ _
  split
  · unfold readP
    split <;> exact ⟨Nat.le_refl _, Nat.le_add_right _ _⟩
  split
  · split <;> exact Le.refl _ _
  split
  · have h := callP_le hrec (l[0]?.getD default) (.int 0) s
    split
    · rename_i v s' heq
      rw [heq] at h
      exact (h.trans (callP_le hrec _ _ _)).mono (by omega)
    · exact h.mono (by omega)
  split
  · split <;> exact Le.refl _ _
  · exact Le.refl _ _
theorem bodyP_le (t : Core) (e : PEnv) (s : St) : Le s (bodyP inp rec t e s).2 1 := by
  unfold bodyP
  simp only []
  split
  · split <;> exact Le.refl _ _
  split
  · exact Le.refl _ _
  split
  · exact ⟨Nat.le_refl _, Nat.le_add_right _ _⟩
  split
  · exact (andThen_le (hrec _ _ _) fun f s => andThen_le (hrec _ _ _) fun a s => callP_le hrec f a s).mono (by omega)
  split
  · exact (andThen_le (hrec _ _ _) fun f s => hrec _ _ _).mono (by omega)
  split
  · have h := hrec (t.cs[t.cs.length - 1]?.getD default) (fixEnv t.ks s.fns.length e) { s with fns := s.fns ++ fixFns (fixEnv t.ks s.fns.length e) t.ks t.cs }
    exact ⟨h.left, by have := h.out; simp at this ⊢; omega⟩
  split
  · refine andThen_le (hrec _ _ _) fun v s => ?_
    split
    · split <;> exact Le.refl _ _
    · exact Le.refl _ _
  split
  · refine andThen_le (hrec _ _ _) fun v s => ?_
    split
    · exact (hrec _ _ _).mono (by omega)
    · exact Le.refl _ _
  · have h := evs_le hrec e t.cs [] s
    split
    · rename_i r s' heq
      rw [heq] at h
      exact h.mono (by omega)
    · rename_i l s' heq
      rw [heq] at h
      split
      · exact h.mono (by omega)
      · exact (h.trans (primP_le hrec _ _ _)).mono (by omega)
end
theorem ev_le (inp : List Int) : ∀ (n : Nat) (t : Core) (e : PEnv) (s : St), Le s (ev inp n t e s).2
  | 0, _, _, s => Le.refl _ _
  | n + 1, t, e, s => by
    unfold ev
    split
    · exact Le.refl _ _
    · have h := bodyP_le (inp := inp) (ev_le inp n) t e { s with left := s.left - 1 }
      exact ⟨Nat.le_trans h.left (by simp), by have := h.out; simp at this ⊢; omega⟩
end Go.Proofs.YtnolhcdfknjncaaDoor
