/-
  1 texts of this seat in one: B2.
-/
import Derived.Test.YtnobggabjpcbfaaQM9
import Derived.Test.YtnobggabjpcbfaaQM12
/-
  A program of few parts is small.
-/
set_option linter.unusedVariables false
set_option linter.unusedSimpArgs false
namespace Go.Proofs.Ytnobggabjpcbfaa
open Go.RowKit Go.Maps

mutual
theorem szA_parts : ∀ t : Anf, szA t ≤ partsA t
  | .ret _ => by simp [szA, partsA]
  | .bind _ _ _ ats ks bl r => by
    have h1 := szL_parts bl
    have h2 := szA_parts r
    simp only [szA, partsA]
    omega
theorem szL_parts : ∀ l : List Anf, szL l ≤ partsLA l
  | [] => by simp [szL, partsLA]
  | c :: cs => by
    have h1 := szA_parts c
    have h2 := szL_parts cs
    simp only [szL, partsLA]
    omega
end
theorem fewN_ge : ∀ (l : List FFun) (n : Int), n ≤ fewN l n
  | [], n => by simp [fewN]
  | g :: gs, n => by
    unfold fewN
    split
    · have h1 := nodesA_ge g.body (700 - n) 1
      have h2 := fewN_ge gs (n + (1 + nodesA g.body (700 - n) 1))
      omega
    · omega
theorem fewN_all : ∀ (l : List FFun) (n : Int), fewN l n < 700 → (szFuns l : Int) + n ≤ fewN l n
  | [], n, _ => by simp [fewN, szFuns]
  | g :: gs, n, h => by
    unfold fewN at h ⊢
    split at h
    · rw [if_pos (by assumption)]
      have h1 := fewN_ge gs (n + (1 + nodesA g.body (700 - n) 1))
      have h2 := nodesA_all g.body (700 - n) 1 (by omega)
      have h3 := fewN_all gs _ h
      have h4 := szA_parts g.body
      simp only [szFuns]
      omega
    · omega
theorem few_small {p : FlatP} {inp : List Int} (h : fewF p inp = true) (hr : (∀ g ∈ p.funs, rngA g.body) ∧ rngA p.main) : SmallF p := by
  simp only [fewF, decide_eq_true_eq] at h
  obtain ⟨h, _⟩ := h
  have h1 := fewN_all p.funs _ h
  have h2 := fewN_ge p.funs (nodesA p.main 700 1)
  have h3 := nodesA_all p.main 700 1 (by omega)
  have h4 := szA_parts p.main
  exact ⟨by omega, hr.1, hr.2⟩
end Go.Proofs.Ytnobggabjpcbfaa
