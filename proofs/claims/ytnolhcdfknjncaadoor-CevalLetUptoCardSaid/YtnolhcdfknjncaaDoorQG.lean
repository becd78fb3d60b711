/-
  4 texts of this seat in one: G4 G5 G6 G7.
-/
import Derived.Test.YtnolhcdfknjncaaDoorG3
import Derived.Test.YtnolhcdfknjncaaDoorQP
import Derived.Test.YtnolhcdfknjncaaDoorQE
import Derived.Test.YtnolhcdfknjncaaDoorQI
/-
  The plain law of camletref19.free: its list holds the free variables.
-/
set_option linter.unusedVariables false
set_option linter.unusedSimpArgs false
namespace Go.Proofs.YtnolhcdfknjncaaDoor
open Go.RowKit Go.Proofs.YtnolhcdfknjncaaDoorW.PrintWords Go.Proofs.YtnolhcdfknjncaaDoor.PCevalLet

theorem rd_nat (l : List Int) (i : Nat) : rd l (i : Int) = nth l i := by simp [rd, nth, List.getD]
theorem wrap_small {x : Int} (h0 : 0 ≤ x) (h1 : x ≤ 1000000000000) : wrap64 x = x := by unfold wrap64; omega
theorem drop_cons (l : List Int) {i : Nat} (h : i < l.length) : l.drop i = nth l i :: l.drop (i + 1) := by
  rw [List.drop_eq_getElem_cons h, nth_eq l h]

theorem has_loop (l : List Int) (a : Int) (hl : l.length ≤ 1000000000) : ∀ (d i k : Nat), i + d = l.length → d < k → camletref19_Has.l0 k l a (l.length : Int) (i : Int) = some (decide (a ∈ l.drop i))
  | 0, i, k, hi, hk => by
    obtain ⟨k, rfl⟩ : ∃ m, k = m + 1 := ⟨k - 1, by omega⟩
    rw [camletref19_Has.l0, if_neg (by omega), List.drop_eq_nil_iff.2 (by omega)]
    simp
  | d + 1, i, k, hi, hk => by
    obtain ⟨k, rfl⟩ : ∃ m, k = m + 1 := ⟨k - 1, by omega⟩
    rw [camletref19_Has.l0, if_pos (by omega), if_pos (by omega), if_pos (by omega), rd_nat, drop_cons l (by omega)]
    by_cases hx : nth l i = a
    · rw [if_pos hx]; simp [hx]
    · rw [if_neg hx, wrap_small (by omega) (by omega)]
      have := has_loop l a hl d (i + 1) k (by omega) (by omega)
      rw [show ((i : Int) + 1) = ((i + 1 : Nat) : Int) from by push_cast; rfl, this]
      simp [Ne.symm hx]
theorem has_law (l : List Int) (a : Int) (hl : l.length ≤ 1000000000) (k : Nat) (hk : l.length < k) : camletref19_Has.f k l a = some (decide (a ∈ l)) := by
  have := has_loop l a hl l.length 0 k (by omega) hk
  simpa [camletref19_Has.f] using this

theorem less_loop (l m : List Int) (hl : l.length ≤ 1000000000) (hm : m.length ≤ 1000000000) : ∀ (d i k : Nat) (acc : List Int), i + d = l.length → acc.length ≤ i → d + m.length + 1 < k →
    camletref19_Less.l0 k l m acc (l.length : Int) (i : Int) = some (acc ++ (l.drop i).filter (fun x => !decide (x ∈ m)))
  | 0, i, k, acc, hi, ha, hk => by
    obtain ⟨k, rfl⟩ : ∃ m, k = m + 1 := ⟨k - 1, by omega⟩
    rw [camletref19_Less.l0, if_neg (by omega), List.drop_eq_nil_iff.2 (by omega)]
    simp
  | d + 1, i, k, acc, hi, ha, hk => by
    obtain ⟨k, rfl⟩ : ∃ m, k = m + 1 := ⟨k - 1, by omega⟩
    rw [camletref19_Less.l0, if_pos (by omega), if_pos (by omega), if_pos (by omega), rd_nat, has_law m _ hm k (by omega), drop_cons l (by omega)]
    simp only [Option.bind_some]
    have hw : wrap64 ((i : Int) + 1) = ((i + 1 : Nat) : Int) := by rw [wrap_small (by omega) (by omega)]; push_cast; rfl
    by_cases hx : nth l i ∈ m
    · rw [if_pos (by simp [hx]), hw, less_loop l m hl hm d (i + 1) k acc (by omega) (by omega) (by omega)]
      simp [hx]
    · rw [if_neg (by simp [hx]), if_pos (by omega), hw, less_loop l m hl hm d (i + 1) k _ (by omega) (by simp; omega) (by omega)]
      simp [hx]
theorem less_law (l m : List Int) (hl : l.length ≤ 1000000000) (hm : m.length ≤ 1000000000) (k : Nat) (hk : l.length + m.length + 1 < k) : camletref19_Less.f k l m = some (l.filter (fun x => !decide (x ∈ m))) := by
  have := less_loop l m hl hm l.length 0 k [] (by omega) (by simp) hk
  simpa [camletref19_Less.f] using this

theorem put_loop (l : List Int) (a : Int) (hl : l.length ≤ 1000000000) : ∀ (d i : Nat), i + d = l.length → ∃ j, ∀ k, d < k → camletref19_Put.l0 k l a (i : Int) = some (l.take j ++ [a] ++ l.drop j)
  | 0, i, hi => by
    refine ⟨i, fun k hk => ?_⟩
    obtain ⟨k, rfl⟩ : ∃ m, k = m + 1 := ⟨k - 1, by omega⟩
    rw [camletref19_Put.l0, if_neg (by omega), if_pos (by omega), if_pos (by omega)]
    simp only [Option.bind_some, Int.toNat_natCast]
    rw [if_pos (by simp; omega), if_pos (by simp; omega), if_pos (by simp; omega)]
    simp
  | d + 1, i, hi => by
    by_cases hx : nth l i < a
    · obtain ⟨j, hj⟩ := put_loop l a hl d (i + 1) (by omega)
      refine ⟨j, fun k hk => ?_⟩
      obtain ⟨k, rfl⟩ : ∃ m, k = m + 1 := ⟨k - 1, by omega⟩
      rw [camletref19_Put.l0, if_pos (by omega), if_pos (by omega), rd_nat, if_pos hx, wrap_small (by omega) (by omega)]
      have := hj k (by omega)
      push_cast at this
      exact this
    · refine ⟨i, fun k hk => ?_⟩
      obtain ⟨k, rfl⟩ : ∃ m, k = m + 1 := ⟨k - 1, by omega⟩
      rw [camletref19_Put.l0, if_pos (by omega), if_pos (by omega), rd_nat, if_neg hx, if_pos (by omega)]
      simp only [Option.bind_some, Int.toNat_natCast]
      rw [if_pos (by simp; omega), if_pos (by simp; omega), if_pos (by simp; omega)]
      simp
theorem put_law (l : List Int) (a : Int) (hl : l.length ≤ 1000000000) : ∃ r, (∀ k, l.length < k → camletref19_Put.f k l a = some r) ∧ (∀ x, x ∈ r ↔ x ∈ l ∨ x = a) ∧ r.length ≤ l.length + 1 := by
  by_cases ha : a ∈ l
  · refine ⟨l, fun k hk => ?_, fun x => ⟨.inl, fun h => h.elim id (fun e => e ▸ ha)⟩, by omega⟩
    rw [camletref19_Put.f, has_law l a hl k hk]
    simp [ha]
  · obtain ⟨j, hj⟩ := put_loop l a hl l.length 0 (by omega)
    refine ⟨l.take j ++ [a] ++ l.drop j, fun k hk => ?_, fun x => ?_, ?_⟩
    · rw [camletref19_Put.f, has_law l a hl k hk]
      simp only [ha, decide_false, Option.bind_some, Bool.false_eq_true, if_false]
      exact hj k hk
    · have hx : x ∈ l ↔ x ∈ l.take j ∨ x ∈ l.drop j := by
        conv => lhs; rw [← List.take_append_drop j l]
        exact List.mem_append
      rw [hx]
      simp only [List.mem_append, List.mem_singleton]
      constructor
      · rintro ((h | h) | h)
        · exact .inl (.inl h)
        · exact .inr h
        · exact .inl (.inr h)
      · rintro ((h | h) | h)
        · exact .inl (.inl h)
        · exact .inr h
        · exact .inl (.inr h)
    · simp; omega
theorem union_loop (m : List Int) (hm : m.length ≤ 100000000) : ∀ (d i : Nat) (acc : List Int), i + d = m.length → acc.length + d ≤ 1000000000 →
    ∃ r, (∀ k, acc.length + 2 * d + 2 < k → camletref19_Union.l0 k acc m (m.length : Int) (i : Int) = some r) ∧ (∀ x, x ∈ r ↔ x ∈ acc ∨ x ∈ m.drop i) ∧ r.length ≤ acc.length + d
  | 0, i, acc, hi, ha => by
    refine ⟨acc, fun k hk => ?_, fun x => ?_, by omega⟩
    · obtain ⟨k, rfl⟩ : ∃ m, k = m + 1 := ⟨k - 1, by omega⟩
      rw [camletref19_Union.l0, if_neg (by omega)]
    · rw [List.drop_eq_nil_iff.2 (by omega)]; simp
  | d + 1, i, acc, hi, ha => by
    obtain ⟨r1, h1, h2, h3⟩ := put_law acc (nth m i) (by omega)
    obtain ⟨r, k1, k2, k3⟩ := union_loop m hm d (i + 1) r1 (by omega) (by omega)
    refine ⟨r, fun k hk => ?_, fun x => ?_, by omega⟩
    · obtain ⟨k, rfl⟩ : ∃ m, k = m + 1 := ⟨k - 1, by omega⟩
      rw [camletref19_Union.l0, if_pos (by omega), if_pos (by omega), if_pos (by omega), rd_nat, h1 k (by omega), wrap_small (by omega) (by omega)]
      have := k1 k (by omega)
      push_cast at this
      exact this
    · rw [k2, h2]
      conv => rhs; rw [drop_cons m (show i < m.length from by omega), List.mem_cons]
      constructor
      · rintro ((h | h) | h)
        · exact .inl h
        · exact .inr (.inl h)
        · exact .inr (.inr h)
      · rintro (h | h | h)
        · exact .inl (.inl h)
        · exact .inl (.inr h)
        · exact .inr h
theorem union_law (l m : List Int) (hl : l.length + m.length ≤ 100000000) : ∃ r, (∀ k, l.length + 2 * m.length + 2 < k → camletref19_Union.f k l m = some r) ∧ (∀ x, x ∈ r ↔ x ∈ l ∨ x ∈ m) ∧ r.length ≤ l.length + m.length := by
  obtain ⟨r, h1, h2, h3⟩ := union_loop m (by omega) m.length 0 l (by omega) (by omega)
  exact ⟨r, fun k hk => by simpa [camletref19_Union.f] using h1 k hk, by simpa using h2, h3⟩
end Go.Proofs.YtnolhcdfknjncaaDoor

/-
  The plain law of camletref19.free: its list holds the free variables.
-/
set_option linter.unusedVariables false
set_option linter.unusedSimpArgs false
namespace Go.Proofs.YtnolhcdfknjncaaDoor
open Go.RowKit Go.Proofs.YtnolhcdfknjncaaDoorW.PrintWords Go.Proofs.YtnolhcdfknjncaaDoor.PCevalLet

mutual
def toS : Core → S26
  | .mk k n ks cs => ⟨k, n, ks, toSs cs⟩
def toSs : List Core → List S26
  | [] => []
  | c :: cs => toS c :: toSs cs
end
theorem toSs_len : ∀ cs : List Core, (toSs cs).length = cs.length
  | [] => rfl
  | c :: cs => by simp [toSs, toSs_len cs]
theorem toSs_get : ∀ (cs : List Core) (i : Nat) (h : i < cs.length), (toSs cs)[i]? = some (toS cs[i])
  | c :: cs, 0, _ => rfl
  | c :: cs, i + 1, h => by simpa [toSs] using toSs_get cs i (by simpa using h)
theorem rd_toSs (cs : List Core) {i : Nat} (h : i < cs.length) : rd_T26 (toSs cs) (i : Int) = toS cs[i] := by
  simp [rd_T26, List.getD, toSs_get cs i h]
mutual
def szT : Core → Nat
  | .mk _ _ _ cs => 1 + szL cs
def szL : List Core → Nat
  | [] => 0
  | c :: cs => szT c + szL cs
end
theorem szL_drop (cs : List Core) {i : Nat} (h : i < cs.length) : szL (cs.drop i) = szT cs[i] + szL (cs.drop (i + 1)) := by
  rw [List.drop_eq_getElem_cons h, szL]
theorem szL_ge : ∀ cs : List Core, cs.length ≤ szL cs
  | [] => by simp [szL]
  | c :: cs => by have := szL_ge cs; cases c; simp only [szL, szT, List.length_cons]; omega

/-- what free answers -/
def FreeOk (t : Core) : Prop := ∃ K r, (∀ k, K ≤ k → camletref19_free.f k t.k t.n t.ks (toSs t.cs) = some r) ∧ (∀ x, x ∈ r ↔ fr x t) ∧ r.length ≤ szT t
def PartP (kd : Int) (ks : List Int) (x : Int) (j : Nat) (c : Core) : Prop := fr x c ∧ (kd = 6 → 2 * j < ks.length → nth ks (2 * j + 1) ≠ x)

theorem wrapA (i : Nat) (h : i ≤ 1000000) : wrap64 ((i : Int) + 1) = ((i + 1 : Nat) : Int) := by
  rw [wrap_small (by omega) (by omega)]; omega
theorem wrapB (i : Nat) (h : i ≤ 1000000) : wrap64 (2 * (i : Int)) = ((2 * i : Nat) : Int) := by
  rw [wrap_small (by omega) (by omega)]; omega
theorem wrapC (i : Nat) (h : i ≤ 1000000) : wrap64 (((2 * i : Nat) : Int) + 1) = ((2 * i + 1 : Nat) : Int) := by
  rw [wrap_small (by omega) (by omega)]; omega
theorem exp_first {i : Nat} (P : Nat → Prop) : (∃ j, i ≤ j ∧ P j) ↔ (P i ∨ ∃ j, i + 1 ≤ j ∧ P j) := by
  constructor
  · rintro ⟨j, hj, hp⟩
    rcases Nat.lt_or_ge i j with h | h
    · exact .inr ⟨j, h, hp⟩
    · obtain rfl : j = i := by omega
      exact .inl hp
  · rintro (hp | ⟨j, hj, hp⟩)
    · exact ⟨i, by omega, hp⟩
    · exact ⟨j, by omega, hp⟩
theorem free_step6 {k i : Nat} {out funs rc fl r1 : List Int} {kd n : Int} {ks : List Int} {S : List S26} {len : Nat} (h6 : kd = 6) (hl : S.length = len) (hi : i < len) (h2i : 2 * i + 1 < ks.length) (hks : ks.length ≤ 1000000) (hi6 : i ≤ 1000000) (hfu : funs.length ≤ 1000000)
    (hfree : camletref19_free.f (k + 1) ((rd_T26 S (i : Int)).f0) ((rd_T26 S (i : Int)).f1) ((rd_T26 S (i : Int)).f2) ((rd_T26 S (i : Int)).f3) = some rc) (hless : camletref19_Less.f k rc [nth ks (2 * i + 1)] = some fl) (hun : camletref19_Union.f k out fl = some r1) :
    camletref19_free.l0 (k + 1 + 1) out funs (len : Int) (i : Int) kd n ks S = camletref19_free.l0 k r1 (funs ++ [nth ks (2 * i)]) (len : Int) ((i + 1 : Nat) : Int) kd n ks S := by
  have g1 : (i : Int) < (len : Int) := by omega
  have g2 : (0 : Int) ≤ (i : Int) := by omega
  have g3 : (i : Int) < (S.length : Int) := by omega
  have g4 : decide (((2 * i : Nat) : Int) < (ks.length : Int)) = true := by simp only [decide_eq_true_eq]; omega
  have g5 : (0 : Int) ≤ ((2 * i : Nat) : Int) := by omega
  have g6 : ((2 * i : Nat) : Int) < (ks.length : Int) := by omega
  have g7 : funs.length < 17592186044416 := by omega
  have g8 : (0 : Int) ≤ ((2 * i + 1 : Nat) : Int) := by omega
  have g9 : ((2 * i + 1 : Nat) : Int) < (ks.length : Int) := by omega
  have hw := wrapA i hi6
  have hw2 := wrapB i hi6
  have hw3 := wrapC i hi6
  rw [camletref19_free.l0, if_pos g1, if_pos g2, if_pos g3, hfree]
  simp only [Option.bind_some]
  rw [if_pos h6, hw2, g4, camletref19_free.j1, if_pos rfl, hw2, if_pos g5, if_pos g6, if_pos g7, hw3, if_pos g8, if_pos g9, rd_nat, rd_nat, hless]
  simp only [Option.bind_some]
  rw [hun]
  simp only [Option.bind_some]
  rw [hw]
theorem free_stepN {k i : Nat} {out funs rc r1 : List Int} {kd n : Int} {ks : List Int} {S : List S26} {len : Nat} (hl : S.length = len) (hi : i < len) (hno : ¬ (kd = 6 ∧ 2 * i < ks.length)) (hi6 : i ≤ 1000000)
    (hfree : camletref19_free.f (k + 1) ((rd_T26 S (i : Int)).f0) ((rd_T26 S (i : Int)).f1) ((rd_T26 S (i : Int)).f2) ((rd_T26 S (i : Int)).f3) = some rc) (hun : camletref19_Union.f k out rc = some r1) :
    camletref19_free.l0 (k + 1 + 1) out funs (len : Int) (i : Int) kd n ks S = camletref19_free.l0 k r1 funs (len : Int) ((i + 1 : Nat) : Int) kd n ks S := by
  have g1 : (i : Int) < (len : Int) := by omega
  have g2 : (0 : Int) ≤ (i : Int) := by omega
  have g3 : (i : Int) < (S.length : Int) := by omega
  have hw := wrapA i hi6
  have hw2 := wrapB i hi6
  rw [camletref19_free.l0, if_pos g1, if_pos g2, if_pos g3, hfree]
  simp only [Option.bind_some]
  by_cases h6 : kd = 6
  · have g4 : decide (((2 * i : Nat) : Int) < (ks.length : Int)) = false := by simp only [decide_eq_false_iff_not]; intro e; exact hno ⟨h6, by omega⟩
    rw [if_pos h6, hw2, g4, camletref19_free.j1, if_neg (by simp), hun]
    simp only [Option.bind_some]
    rw [hw]
  · rw [if_neg h6, camletref19_free.j1, if_neg (by simp), hun]
    simp only [Option.bind_some]
    rw [hw]
theorem less_one (rc : List Int) (p : Int) (h : rc.length ≤ 1000000000) : ∃ fl : List Int, (∀ k, rc.length + 2 < k → camletref19_Less.f k rc [p] = some fl) ∧ (∀ x, x ∈ fl ↔ x ∈ rc ∧ x ≠ p) ∧ fl.length ≤ rc.length := by
  have h1 : ([p] : List Int).length = 1 := rfl
  refine ⟨rc.filter (fun x => !decide (x ∈ [p])), fun k hk => less_law rc [p] h (by rw [h1]; omega) k (by rw [h1]; omega), fun x => ?_, List.length_filter_le _ _⟩
  simp only [List.mem_filter, List.mem_singleton, Bool.not_eq_true', decide_eq_false_iff_not, ne_eq]
set_option maxHeartbeats 1000000 in
theorem free_loop (kd n : Int) (ks : List Int) (cs : List Core) (hk : kd = 6 → ks.length % 2 = 0) (hks : ks.length ≤ 1000000) (hcl : cs.length ≤ 1000000) (z S : Nat → Nat) (hS : ∀ i, i < cs.length → S i = z i + S (i + 1)) (hok : ∀ i (h : i < cs.length), ∃ K r, (∀ k, K ≤ k → camletref19_free.f k ((rd_T26 (toSs cs) (i : Int)).f0) ((rd_T26 (toSs cs) (i : Int)).f1) ((rd_T26 (toSs cs) (i : Int)).f2) ((rd_T26 (toSs cs) (i : Int)).f3) = some r) ∧ (∀ x, x ∈ r ↔ fr x cs[i]) ∧ r.length ≤ z i) :
    ∀ (d i : Nat) (out funs : List Int), i + d = cs.length → funs.length ≤ i → out.length + S i ≤ 2000000 →
    ∃ K r, (∀ k, K ≤ k → camletref19_free.l0 k out funs (cs.length : Int) (i : Int) kd n ks (toSs cs) = some r) ∧
      (∀ x, x ∈ r ↔ ((x ∈ out ∨ ∃ j, i ≤ j ∧ ∃ h : j < cs.length, PartP kd ks x j cs[j]) ∧ ¬ (x ∈ funs ∨ ∃ j, i ≤ j ∧ j < cs.length ∧ kd = 6 ∧ 2 * j < ks.length ∧ x = nth ks (2 * j)))) ∧
      r.length ≤ out.length + S i
  | 0, i, out, funs, hi, hf, ho => by
    refine ⟨out.length + funs.length + 4, out.filter (fun x => !decide (x ∈ funs)), fun k hk => ?_, fun x => ?_, ?_⟩
    · obtain ⟨k, rfl⟩ : ∃ m, k = m + 1 := ⟨k - 1, by omega⟩
      rw [camletref19_free.l0, if_neg (by omega), less_law out funs (by omega) (by omega) k (by omega)]
      rfl
    · simp only [List.mem_filter, Bool.not_eq_true', decide_eq_false_iff_not]
      constructor
      · rintro ⟨h1, h2⟩
        exact ⟨.inl h1, fun h => h.elim h2 (fun ⟨j, hj, hj2, _⟩ => by omega)⟩
      · rintro ⟨h1, h2⟩
        refine ⟨h1.elim id (fun ⟨j, hj, hj2, _⟩ => by omega), fun h => h2 (.inl h)⟩
    · exact Nat.le_trans (List.length_filter_le _ _) (by omega)
  | d + 1, i, out, funs, hi, hf, ho => by
    have hic : i < cs.length := by omega
    have hi6 : i ≤ 1000000 := by omega
    have q6 : funs.length ≤ 1000000 := by omega
    obtain ⟨Kc, rc, hfree, c2, c3⟩ := hok i hic
    have hdr := hS i hic
    by_cases hc6 : kd = 6 ∧ 2 * i < ks.length
    · obtain ⟨hkd, h2i⟩ := hc6
      have q5 : 2 * i + 1 < ks.length := by have hev := hk hkd; clear hdr c3 ho hcl hi6; omega
      have hrcl : rc.length ≤ 2000000 := by omega
      obtain ⟨fl, f1, f2, f3⟩ := less_one rc (nth ks (2 * i + 1)) (by omega)
      have hu : out.length + fl.length ≤ 100000000 := by omega
      obtain ⟨r1, u1, u2, u3⟩ := union_law out fl hu
      have hr1 : r1.length + S (i + 1) ≤ 2000000 := by omega
      obtain ⟨K', r, k1, k2, k3⟩ := free_loop kd n ks cs hk hks hcl z S hS hok d (i + 1) r1 (funs ++ [nth ks (2 * i)]) (by omega) (by rw [List.length_append]; exact Nat.add_le_add hf (Nat.le_refl 1)) hr1
      refine ⟨Kc + K' + out.length + 2 * rc.length + rc.length + 10, r, fun k hkk => ?_, fun x => ?_, by omega⟩
      · obtain ⟨k, rfl⟩ : ∃ m, k = m + 1 + 1 := ⟨k - 2, by omega⟩
        have q1 : Kc ≤ k + 1 := by omega
        have q2 : rc.length + 2 < k := by omega
        have q3 : out.length + 2 * fl.length + 2 < k := by omega
        have q4 : K' ≤ k := by omega
        exact (free_step6 hkd (toSs_len cs) hic q5 hks hi6 q6 (hfree (k + 1) q1) (f1 k q2) (u1 k q3)).trans (k1 k q4)
      · rw [k2, u2]
        rw [exp_first (i := i) (fun j => ∃ h : j < cs.length, PartP kd ks x j cs[j]), exp_first (i := i) (fun j => j < cs.length ∧ kd = 6 ∧ 2 * j < ks.length ∧ x = nth ks (2 * j))]
        have hp : (∃ h : i < cs.length, PartP kd ks x i cs[i]) ↔ x ∈ fl := by
          rw [f2, c2]
          constructor
          · rintro ⟨_, h1, h2⟩; exact ⟨h1, fun e => h2 hkd h2i e.symm⟩
          · rintro ⟨h1, h2⟩; exact ⟨hic, h1, fun _ _ e => h2 e.symm⟩
        have hn : (i < cs.length ∧ kd = 6 ∧ 2 * i < ks.length ∧ x = nth ks (2 * i)) ↔ x = nth ks (2 * i) := ⟨fun h => h.2.2.2, fun h => ⟨hic, hkd, h2i, h⟩⟩
        rw [hp, hn]
        simp only [List.mem_append, List.mem_singleton]
        simp only [or_assoc]
    · obtain ⟨r1, u1, u2, u3⟩ := union_law out rc (by omega)
      obtain ⟨K', r, k1, k2, k3⟩ := free_loop kd n ks cs hk hks hcl z S hS hok d (i + 1) r1 funs (by omega) (by omega) (by omega)
      refine ⟨Kc + K' + out.length + 2 * rc.length + 10, r, fun k hkk => ?_, fun x => ?_, by omega⟩
      · obtain ⟨k, rfl⟩ : ∃ m, k = m + 1 + 1 := ⟨k - 2, by omega⟩
        have q1 : Kc ≤ k + 1 := by omega
        have q3 : out.length + 2 * rc.length + 2 < k := by omega
        have q4 : K' ≤ k := by omega
        exact (free_stepN (toSs_len cs) hic hc6 hi6 (hfree (k + 1) q1) (u1 k q3)).trans (k1 k q4)
      · rw [k2, u2]
        rw [exp_first (i := i) (fun j => ∃ h : j < cs.length, PartP kd ks x j cs[j]), exp_first (i := i) (fun j => j < cs.length ∧ kd = 6 ∧ 2 * j < ks.length ∧ x = nth ks (2 * j))]
        have hp : (∃ h : i < cs.length, PartP kd ks x i cs[i]) ↔ x ∈ rc := by
          rw [c2]
          exact ⟨fun ⟨_, h, _⟩ => h, fun h => ⟨hic, h, fun h6 h2 => absurd ⟨h6, h2⟩ hc6⟩⟩
        have hn : (i < cs.length ∧ kd = 6 ∧ 2 * i < ks.length ∧ x = nth ks (2 * i)) ↔ False := ⟨fun h => hc6 ⟨h.2.1, h.2.2.1⟩, False.elim⟩
        rw [hp, hn]
        simp only [or_assoc, false_or]

/-! ### a term's free variables -/
theorem names_iff : ∀ (ks : List Int) (x : Int), ks.length % 2 = 0 → (x ∈ namesOf ks ↔ ∃ j, 2 * j < ks.length ∧ x = nth ks (2 * j))
  | [], x, _ => by simp [namesOf]
  | [_], x, h => by simp at h
  | a :: b :: ks, x, h => by
    have ih := names_iff ks x (by simpa [Nat.add_assoc] using h)
    simp only [namesOf, List.mem_cons, ih]
    constructor
    · rintro (rfl | ⟨j, hj, hx⟩)
      · exact ⟨0, by simp, by simp [nth]⟩
      · refine ⟨j + 1, by simp; omega, ?_⟩
        rw [show 2 * (j + 1) = 2 * j + 1 + 1 from by omega, hx]
        simp [nth]
    · rintro ⟨j, hj, hx⟩
      cases j with
      | zero => left; simpa [nth] using hx
      | succ j =>
        right
        refine ⟨j, by simp at hj; omega, ?_⟩
        rw [hx, show 2 * (j + 1) = 2 * j + 1 + 1 from by omega]
        simp [nth]
theorem frs_iff (x : Int) : ∀ (cs : List Core), frs x cs ↔ ∃ j, ∃ h : j < cs.length, fr x cs[j]
  | [] => by simp [frs]
  | c :: cs => by
    simp only [frs, frs_iff x cs]
    constructor
    · rintro (h | ⟨j, hj, h⟩)
      · exact ⟨0, by simp, h⟩
      · exact ⟨j + 1, by simpa using hj, by simpa using h⟩
    · rintro ⟨j, hj, h⟩
      cases j with
      | zero => exact .inl h
      | succ j => exact .inr ⟨j, by simpa using hj, by simpa using h⟩
/-- a group's kids: the functions' bodies, and the last -/
theorem fix_iff (x : Int) : ∀ (ks : List Int) (cs : List Core), ks.length % 2 = 0 → cs.length = ks.length / 2 + 1 →
    ((frF x ks cs ∨ frLast x cs) ↔ ∃ j, ∃ h : j < cs.length, fr x cs[j] ∧ (2 * j < ks.length → nth ks (2 * j + 1) ≠ x))
  | [], cs, _, hc => by
    match cs, hc with
    | [c], _ =>
      simp only [frF, frLast, false_or, or_false, true_and]
      constructor
      · intro h; exact ⟨0, by simp, h, fun h => by simp at h⟩
      · rintro ⟨j, hj, h, _⟩
        obtain rfl : j = 0 := by simp at hj; omega
        exact h
  | [_], cs, h, _ => by simp at h
  | a :: b :: ks, cs, h, hc => by
    match cs, hc with
    | c :: cs, hc =>
      have hc' : cs.length = ks.length / 2 + 1 := by simp at hc; omega
      have ih := fix_iff x ks cs (by simpa [Nat.add_assoc] using h) hc'
      have hne : cs ≠ [] := by rintro rfl; simp at hc'
      have e1 : (frF x (a :: b :: ks) (c :: cs) ∨ frLast x (c :: cs)) ↔ ((b ≠ x ∧ fr x c) ∨ (frF x ks cs ∨ frLast x cs)) := by
        simp only [frF, frLast, hne, false_and, false_or, or_assoc]
      rw [e1, ih]
      constructor
      · rintro (⟨h1, h2⟩ | ⟨j, hj, h1, h2⟩)
        · exact ⟨0, by simp, h2, fun _ => by simpa [nth] using h1⟩
        · refine ⟨j + 1, by simpa using hj, by simpa using h1, fun h3 => ?_⟩
          have := h2 (by simp at h3; omega)
          rw [show 2 * (j + 1) + 1 = 2 * j + 1 + 1 + 1 from by omega]
          simpa [nth] using this
      · rintro ⟨j, hj, h1, h2⟩
        cases j with
        | zero => exact .inl ⟨by simpa [nth] using h2 (by simp), h1⟩
        | succ j =>
          refine .inr ⟨j, by simpa using hj, by simpa using h1, fun h3 => ?_⟩
          have := h2 (by simp; omega)
          rw [show 2 * (j + 1) + 1 = 2 * j + 1 + 1 + 1 from by omega] at this
          simpa [nth] using this

/-- what a list of free variables is -/
def FreeIs (t : Core) (N : Nat) : Prop := ∃ K r, (∀ k, K ≤ k → camletref19_free.f k t.k t.n t.ks (toSs t.cs) = some r) ∧ (∀ x, x ∈ r ↔ fr x t) ∧ r.length ≤ N
end Go.Proofs.YtnolhcdfknjncaaDoor

/-
  The plain law of camletref19.free: every right term.
-/
set_option linter.unusedVariables false
set_option linter.unusedSimpArgs false
namespace Go.Proofs.YtnolhcdfknjncaaDoor
open Go.RowKit Go.Proofs.YtnolhcdfknjncaaDoorW.PrintWords Go.Proofs.YtnolhcdfknjncaaDoor.PCevalLet

theorem ok_count {k n : Int} {ks : List Int} {cs : List Core} (h : nodeOk (.mk k n ks cs)) : (k = 6 → ks.length % 2 = 0 ∧ cs.length = ks.length / 2 + 1) ∧ (k = 3 → cs.length = 1) ∧ (k = 5 → cs.length = 2) ∧ ks.length ≤ 2 * cs.length := by
  obtain ⟨h1, h2, h3, h4, h5⟩ := h
  simp only [Core.k, Core.n, Core.ks, Core.cs] at h1 h2 h4
  have hkk : k = 1 ∨ k = 2 ∨ k = 3 ∨ k = 4 ∨ k = 5 ∨ k = 6 ∨ k = 7 ∨ k = 8 ∨ k = 9 ∨ k = 10 := by omega
  clear h3 h5 h1 h2
  rcases hkk with rfl | rfl | rfl | rfl | rfl | rfl | rfl | rfl | rfl | rfl
  all_goals simp [cntB, kidsL] at h4 ⊢
  all_goals try (obtain ⟨rfl, h4⟩ := h4)
  all_goals try simp
  all_goals omega
theorem core_fields (c : Core) (k : Nat) : camletref19_free.f k (toS c).f0 (toS c).f1 (toS c).f2 (toS c).f3 = camletref19_free.f k c.k c.n c.ks (toSs c.cs) := by
  cases c; rfl
theorem free_kid {cs : List Core} {i N : Nat} (hi : i < cs.length) (h : FreeIs cs[i] N) : ∃ K r, (∀ k, K ≤ k → camletref19_free.f k ((rd_T26 (toSs cs) (i : Int)).f0) ((rd_T26 (toSs cs) (i : Int)).f1) ((rd_T26 (toSs cs) (i : Int)).f2) ((rd_T26 (toSs cs) (i : Int)).f3) = some r) ∧ (∀ x, x ∈ r ↔ fr x cs[i]) ∧ r.length ≤ N := by
  obtain ⟨K, r, h1, h2, h3⟩ := h
  refine ⟨K, r, fun k hk => ?_, h2, h3⟩
  rw [rd_toSs cs hi, core_fields]
  exact h1 k hk
theorem szT_kid {cs : List Core} {i : Nat} (hi : i < cs.length) : szT cs[i] ≤ szL cs := by
  induction cs generalizing i with
  | nil => simp at hi
  | cons c cs ih =>
    cases i with
    | zero => simp only [List.getElem_cons_zero, szL]; exact Nat.le_add_right _ _
    | succ i => simp only [List.getElem_cons_succ, szL]; exact Nat.le_trans (ih (by simpa using hi)) (Nat.le_add_left _ _)

theorem one_of_len {α : Type} {l : List α} (h : l.length = 1) : ∃ a, l = [a] := by
  match l, h with
  | [a], _ => exact ⟨a, rfl⟩
theorem two_of_len {α : Type} {l : List α} (h : l.length = 2) : ∃ a b, l = [a, b] := by
  match l, h with
  | [a, b], _ => exact ⟨a, b, rfl⟩
theorem free_others {k n : Int} {ks : List Int} {cs : List Core} (h1 : k ≠ 1) (h3 : k ≠ 3) (h5 : k ≠ 5) (hev : k = 6 → ks.length % 2 = 0) (hks : ks.length ≤ 1000000) (hsz : szL cs ≤ 400000) (hok : ∀ i (h : i < cs.length), FreeIs cs[i] (szT cs[i])) :
    ∃ K r, (∀ j, K ≤ j → camletref19_free.f j k n ks (toSs cs) = some r) ∧
      (∀ x, x ∈ r ↔ ((∃ j, ∃ h : j < cs.length, PartP k ks x j cs[j]) ∧ ¬ (∃ j, j < cs.length ∧ k = 6 ∧ 2 * j < ks.length ∧ x = nth ks (2 * j)))) ∧ r.length ≤ szL cs := by
  have hcl := szL_ge cs
  obtain ⟨K, r, k1, k2, k3⟩ := free_loop k n ks cs hev hks (by omega) (fun i => if h : i < cs.length then szT cs[i] else 0) (fun i => szL (cs.drop i)) (fun i hi => by simp only [dif_pos hi]; exact szL_drop cs hi)
    (fun i hi => by simp only [dif_pos hi]; exact free_kid hi (hok i hi)) cs.length 0 [] [] (by omega) (by simp) (by simpa using Nat.le_trans hsz (by omega))
  refine ⟨K + 1, r, fun j hj => ?_, fun x => ?_, by simpa using k3⟩
  · obtain ⟨j, rfl⟩ : ∃ m, j = m + 1 := ⟨j - 1, by omega⟩
    rw [camletref19_free.f, if_neg h1, if_neg h3, if_neg h5, toSs_len]
    exact k1 j (by omega)
  · rw [k2]
    simp
theorem free_all {t : Core} (h : WT t) : szT t ≤ 400000 → FreeIs t (szT t) := by
  induction h with
  | @mk t hn hk ih =>
    obtain ⟨k, n, ks, cs⟩ := t
    intro hsz
    simp only [Core.cs] at hk ih
    simp only [szT] at hsz ⊢
    obtain ⟨c6, c3, c5, ckl⟩ := ok_count hn
    have hcl := szL_ge cs
    have hsl : szL cs ≤ 400000 := by omega
    have hks : ks.length ≤ 1000000 := by omega
    have hok : ∀ i (h : i < cs.length), FreeIs cs[i] (szT cs[i]) := fun i hi => ih _ (List.getElem_mem hi) (Nat.le_trans (szT_kid hi) hsl)
    unfold FreeIs
    simp only [Core.k, Core.n, Core.ks, Core.cs]
    by_cases h1 : k = 1
    · refine ⟨1, [n], fun j hj => ?_, fun x => ?_, by simp⟩
      · obtain ⟨j, rfl⟩ : ∃ m, j = m + 1 := ⟨j - 1, by omega⟩
        rw [camletref19_free.f, if_pos h1]
      · simp only [fr, if_pos h1, List.mem_singleton]; exact eq_comm
    by_cases h3 : k = 3
    · have hl := c3 h3
      obtain ⟨c, rfl⟩ := one_of_len hl
      · obtain ⟨K, r, k1, k2, k3⟩ := free_kid (cs := [c]) (i := 0) (by simp) (hok 0 (by simp))
        try simp only [List.getElem_cons_zero, Int.ofNat_zero, Int.natCast_zero] at k1
        try simp only [List.getElem_cons_zero, Int.ofNat_zero, Int.natCast_zero] at k2
        try simp only [List.getElem_cons_zero, Int.ofNat_zero, Int.natCast_zero] at k3
        have hcs : szL [c] = szT c := by simp [szL]
        rw [hcs] at hsl ⊢
        obtain ⟨fl, f1, f2, f3⟩ := less_one r n (by omega)
        refine ⟨K + r.length + 4, fl, fun j hj => ?_, fun x => ?_, by omega⟩
        · obtain ⟨j, rfl⟩ : ∃ m, j = m + 1 := ⟨j - 1, by omega⟩
          rw [camletref19_free.f, if_neg h1, if_pos h3, if_pos (by simp [toSs]), k1 j (by omega)]
          simp only [Option.bind_some]
          rw [f1 j (by omega)]
          rfl
        · rw [f2, k2]
          simp only [fr, if_neg h1, if_pos h3, frs, or_false]
          constructor
          · rintro ⟨a, b⟩; exact ⟨fun e => b e.symm, a⟩
          · rintro ⟨a, b⟩; exact ⟨b, fun e => a e.symm⟩
    by_cases h5 : k = 5
    · have hl := c5 h5
      obtain ⟨c, e, rfl⟩ := two_of_len hl
      · obtain ⟨K, r, k1, k2, k3⟩ := free_kid (cs := [c, e]) (i := 0) (by simp) (hok 0 (by simp))
        obtain ⟨K', r', k1', k2', k3'⟩ := free_kid (cs := [c, e]) (i := 1) (by simp) (hok 1 (by simp))
        try simp only [List.getElem_cons_zero, List.getElem_cons_succ, Int.natCast_zero] at k1
        try simp only [List.getElem_cons_zero, List.getElem_cons_succ, Int.natCast_zero] at k2
        try simp only [List.getElem_cons_zero, List.getElem_cons_succ, Int.natCast_zero] at k3
        try simp only [List.getElem_cons_zero, List.getElem_cons_succ, Int.natCast_zero] at k1'
        try simp only [List.getElem_cons_zero, List.getElem_cons_succ, Int.natCast_zero] at k2'
        try simp only [List.getElem_cons_zero, List.getElem_cons_succ, Int.natCast_zero] at k3'
        have hcs : szL [c, e] = szT c + szT e := by simp [szL]
        rw [hcs] at hsl ⊢
        obtain ⟨fl, f1, f2, f3⟩ := less_one r' n (by omega)
        obtain ⟨u, u1, u2, u3⟩ := union_law r fl (by omega)
        have hlen : u.length ≤ 1 + (szT c + szT e) := by omega
        refine ⟨K + K' + r'.length + (r.length + 2 * fl.length) + 8, u, fun j hj => ?_, fun x => ?_, hlen⟩
        · obtain ⟨j, rfl⟩ : ∃ m, j = m + 1 := ⟨j - 1, by omega⟩
          have j1 : K ≤ j := by omega
          have j2 : K' ≤ j := by omega
          have j3 : r'.length + 2 < j := by omega
          have j4 : r.length + 2 * fl.length + 2 < j := by omega
          rw [camletref19_free.f, if_neg h1, if_neg h3, if_pos h5, if_pos (by simp [toSs]), k1 j j1]
          simp only [Option.bind_some]
          rw [if_pos (by simp [toSs])]
          have : camletref19_free.f j (rd_T26 (toSs [c, e]) 1).f0 (rd_T26 (toSs [c, e]) 1).f1 (rd_T26 (toSs [c, e]) 1).f2 (rd_T26 (toSs [c, e]) 1).f3 = some r' := k1' j j2
          rw [this]
          simp only [Option.bind_some]
          rw [f1 j j3]
          simp only [Option.bind_some]
          rw [u1 j j4]
          rfl
        · rw [u2, f2, k2, k2']
          simp only [fr, if_neg h1, if_neg h3, if_pos h5, fr5, frs, or_false]
          constructor
          · rintro (a | ⟨a, b⟩)
            · exact .inl a
            · exact .inr ⟨fun e => b e.symm, a⟩
          · rintro (a | ⟨a, b⟩)
            · exact .inl a
            · exact .inr ⟨b, fun e => a e.symm⟩
    obtain ⟨K, r, k1, k2, k3⟩ := free_others (n := n) h1 h3 h5 (fun h => (c6 h).1) hks hsl hok
    refine ⟨K, r, k1, fun x => ?_, by omega⟩
    rw [k2]
    by_cases h6 : k = 6
    · obtain ⟨g1, g2⟩ := c6 h6
      simp only [fr, if_neg h1, if_neg h3, if_neg h5, if_pos h6]
      rw [fix_iff x ks cs g1 g2, names_iff ks x g1]
      have hA : (∃ j, ∃ h : j < cs.length, PartP k ks x j cs[j]) ↔ (∃ j, ∃ h : j < cs.length, fr x cs[j] ∧ (2 * j < ks.length → nth ks (2 * j + 1) ≠ x)) := by
        constructor
        · rintro ⟨j, hj, a, b⟩; exact ⟨j, hj, a, b h6⟩
        · rintro ⟨j, hj, a, b⟩; exact ⟨j, hj, a, fun _ => b⟩
      have hB : (∃ j, j < cs.length ∧ k = 6 ∧ 2 * j < ks.length ∧ x = nth ks (2 * j)) ↔ (∃ j, 2 * j < ks.length ∧ x = nth ks (2 * j)) := by
        constructor
        · rintro ⟨j, _, _, a, b⟩; exact ⟨j, a, b⟩
        · rintro ⟨j, a, b⟩; exact ⟨j, by omega, h6, a, b⟩
      rw [hA, hB]
      exact And.comm
    · simp only [fr, if_neg h1, if_neg h3, if_neg h5, if_neg h6]
      rw [frs_iff]
      constructor
      · rintro ⟨⟨j, hj, a, _⟩, _⟩; exact ⟨j, hj, a⟩
      · rintro ⟨j, hj, a⟩; exact ⟨⟨j, hj, a, fun h => absurd h h6⟩, fun ⟨_, _, h, _⟩ => h6 h⟩
end Go.Proofs.YtnolhcdfknjncaaDoor

/-
  camletref19.Free: a list of the free variables of a right term.
-/
set_option linter.unusedVariables false
set_option linter.unusedSimpArgs false
namespace Go.Proofs.YtnolhcdfknjncaaDoor
open Go.RowKit Go.Proofs.YtnolhcdfknjncaaDoorW.PrintWords Go.Proofs.YtnolhcdfknjncaaDoor.PCevalLet

theorem kd_ints {B : Nat} {w : World} {A : Option Addr} {ks : List Int} (h : IntsIn B w A ks) : (Kd.int .i64).C w A ks.length ks := by
  refine ⟨rfl, by have := h.1; omega, fun h0 => ?_⟩
  obtain ⟨b, o, rfl, hb, hc⟩ := h.at_ h0
  refine ⟨_, rfl, fun j p hp => ⟨[.int .i64 p], rfl, rfl, fun i u hu => ?_⟩⟩
  have hi : i = 0 := by
    cases i with
    | zero => rfl
    | succ i => simp at hu
  subst hi
  obtain rfl : Value.int .i64 p = u := by simpa using hu
  obtain ⟨hj, rfl⟩ := List.getElem?_eq_some_iff.1 hp
  have := hc j hj
  rw [nth_eq ks hj] at this
  have ha : (⟨b, o, none⟩ : Addr).add (j * (Kd.int .i64).sz + 0) = ⟨b, o + j, none⟩ := by
    show (⟨b, o, none⟩ : Addr).add (j * 1 + 0) = _
    rw [Nat.mul_one, Nat.add_zero]; unfold Addr.add; split <;> simp_all
  rw [ha]; exact this
theorem kd_core {B : Nat} {w : World} {t : Core} {v : Array Value} (h : CoreIn B w t v) : k26.K w (toS t) v.toList := by
  induction h with
  | @mk k n ks cs Ak ck Ac cc b o G0 G1 G2 G3 hks hck hcc hcl hA c0 c1 c2 c3 hsub ih =>
    have hlen := toSs_len cs
    have hC : k26.C w Ac (toSs cs).length (toSs cs) := by
      refine ⟨rfl, by omega, fun h0 => ?_⟩
      have h0' : 0 < cs.length := by omega
      obtain ⟨rfl, hb⟩ := hA h0'
      refine ⟨_, rfl, fun j p hp => ?_⟩
      obtain ⟨hj, hp2⟩ := List.getElem?_eq_some_iff.1 hp
      have hj' : j < cs.length := by omega
      have hp3 : toS cs[j] = p := Option.some.inj ((toSs_get cs j hj').symm.trans hp)
      refine ⟨[G0 j, G1 j, G2 j, G3 j], rfl, hp3 ▸ ih j hj', fun i u hu => ?_⟩
      have ha : ∀ m, (⟨b, o, none⟩ : Addr).add m = ⟨b, o + m, none⟩ := fun m => by unfold Addr.add; split <;> simp_all
      show w.cell? ((⟨b, o, none⟩ : Addr).add (j * 4 + i)) = some u
      rw [ha]
      match i, hu with
      | 0, hu => obtain rfl : G0 j = u := by simpa using hu
                 exact c0 j hj'
      | 1, hu => obtain rfl : G1 j = u := by simpa using hu
                 have := c1 j hj'; rwa [Nat.add_assoc] at this
      | 2, hu => obtain rfl : G2 j = u := by simpa using hu
                 have := c2 j hj'; rwa [Nat.add_assoc] at this
      | 3, hu => obtain rfl : G3 j = u := by simpa using hu
                 have := c3 j hj'; rwa [Nat.add_assoc] at this
      | i + 4, hu => simp at hu
    have := k26_mk w (toS (.mk k n ks cs)) (A2 := Ak) (c2 := ck) hck (kd_ints hks) (A3 := Ac) (c3 := cc) (by show (toSs cs).length ≤ cc; omega) hC
    simp only [toS, hlen] at this
    exact this

/-- a list of ints comes back that holds just the free variables -/
def FreePost (t : Core) (w : World) (e : Ending) (w' : World) : Prop := ∃ A c, ∃ r : List Int, e = .returned (.slice A r.length c) ∧ (∀ x, x ∈ r ↔ fr x t) ∧ IntsIn w'.heap.size w' A r ∧ Below w.heap.size w w'
set_option maxRecDepth 100000 in
theorem rfree_any {B : Nat} {w : World} {t : Core} {v : Array Value} (hin : CoreIn B w t v) (hwt : WT t) (hsz : szT t ≤ 400000) : Calls Tryd.prog 33 #[.agg v] w (FreePost t w) := by
  obtain ⟨K, r, h1, h2, h3⟩ := free_all hwt hsz
  cases hin with
  | @mk k n ks cs Ak ck Ac cc b o G0 G1 G2 G3 hks hck hcc hcl hA c0 c1 c2 c3 hsub =>
    have hK := kd_core (CoreIn.mk (k := k) (n := n) hks hck hcc hcl hA c0 c1 c2 c3 hsub)
    have hlen := toSs_len cs
    obtain ⟨A2, c2', A3, c3', he, l2, g2, l3, g3⟩ := k26_open hK
    simp only [toS, List.cons.injEq, Value.slice.injEq, and_true, true_and] at he
    obtain ⟨⟨rfl, _, rfl⟩, ⟨rfl, _, rfl⟩⟩ := he
    have hc := camletref19_free.calls K k n Ak ck ks Ac cc (toSs cs) r w g2 l2 g3 l3 (h1 K (Nat.le_refl _))
    rw [hlen] at hc
    refine hc.mono fun e w' hp => ?_
    obtain ⟨v0, rfl, hR, hb⟩ := hp
    obtain ⟨A, c, rfl, hi, hc⟩ := own_ints (xs := r) (Kd.own_of_R hR) (by omega)
    exact ⟨A, c, r, rfl, h2, hi, hb⟩
end Go.Proofs.YtnolhcdfknjncaaDoor
