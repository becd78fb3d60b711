/-
  FevalMain: the claim: for every input camletlaw31.FevalMain returns true, and its arguments read as they did. Conditions: what the call reads is of bulk at most 1048576 (the row's own bound).
-/
import Derived.Test.YtnobggabjpcbfaaQM9
import Derived.Test.YtnobggabjpcbfaaQM17
import Derived.JoinedCond
set_option linter.unusedVariables false
set_option linter.unusedSimpArgs false
namespace Go.Proofs.Ytnobggabjpcbfaa
open Go.ChangeShapes Go.WideShapes Go.ChangeAt Go.RowKit
theorem main_all {p : FlatP} {v : Array Value} (W : World) (hin : FlatIn W.heap.size W p v) (hrg : (∀ g ∈ p.funs, rngA g.body) ∧ rngA p.main) (hnl : p.funs.length ≤ 1048576) (inp : List Int) (Ai : Option Addr) (ci : Nat) (hi : IntsIn W.heap.size W Ai inp) (hci : inp.length ≤ ci) :
    Calls Try.prog 6 #[.agg v, .slice Ai inp.length ci] W (BoolBelow true W) := by
  obtain ⟨Af, cf, b, o, m0, m1, m2, rfl, hcf, h56, hmain, hA, hfun⟩ := hin
  have hin : FlatIn W.heap.size W p #[.slice Af p.funs.length cf, m0, m1, m2] := ⟨Af, cf, b, o, m0, m1, m2, rfl, hcf, h56, hmain, hA, hfun⟩
  have hmain0 := hmain
  obtain ⟨A1, d1, b1_, o1, hv, -⟩ := hmain.at_
  simp only [Array.mk.injEq, List.cons.injEq, and_true] at hv
  obtain ⟨rfl, rfl, rfl⟩ := hv
  obtain ⟨W0, hW0⟩ : ∃ W0, W.alloc (.cells #[.slice Af p.funs.length cf, .slice A1 p.main.len d1, .bool p.main.last.v, .int .i64 p.main.last.n] 29) = W0 := ⟨_, rfl⟩
  by_cases h : fewF p inp = true ∧ r30 p = 0
  · exact mn_walk hW0 hin hrg hnl hcf hi hci h.1 h.2 hA hfun hmain0
  · refine mn_guard hW0 hin hrg ?_
    cases hf : fewF p inp
    · exact .inl rfl
    · exact .inr (fun hr => h ⟨hf, hr⟩)
namespace fevalMain

theorem readable : ∀ t ∈ Try.f6.params.toList, Try.prog.readableRec t = true ∧ t < Try.prog.types.size := by
  rw [Try.params6]
  intro t ht
  simp only [List.mem_cons, List.not_mem_nil, or_false] at ht
  rcases ht with rfl | rfl
  all_goals exact ⟨by kernel_rfl, of_decide_eq_true (by kernel_rfl)⟩

set_option maxRecDepth 100000 in
theorem contract (H : Type) (enc : TypeId × Value → H) (W : World) (base : Nat) (args : Array Value) (ds gs : List (DataW H)) (before : List MemPlace)
    (hval : ∀ (j : Nat) t v, Try.f6.params[j]? = some t → args[j]? = some v → Value.okWide Try.prog W .any base t v)
    (hW : DataW.Whole enc Try.prog Try.f6.params.toList Rows.fevalMainSpec.vars false W args.toList ds gs before) (hk : Rows.uptoSmall H (ds ++ gs) = true) :
    Calls Try.prog 6 args W fun e W' => ∃ v, e = .returned v ∧ Rows.fevalMainSpec.post enc Try.prog Try.f6 false true false false W args v W' := by
  have hW' := hW
  obtain ⟨p, q, hA0, hV, rfl, hfz, hnd⟩ := hW
  have hA : DataW.TrodAll enc Try.prog W 0 (fun _ => true) true Try.f6.params.toList args.toList ds p := hA0
  rw [Try.params6] at hA hval
  obtain ⟨v0, v1, d0, d1, p0, p1, rfl, rfl, rfl, h0, h1⟩ := trodAll_two hA
  obtain ⟨rfl, rfl⟩ := trodVars_none hV
  have hb := bound hk
  simp only [List.append_nil, List.cons_append, List.nil_append, Rows.uptoBulkAll] at hb
  obtain ⟨t0, cs0, rfl, hin0, hh0, hl0⟩ := open_flat2 (hval 0 _ v0 rfl rfl) h0 (by omega)
  obtain ⟨A1, cap1, ks1, rfl, hks1, hkc1, hkl1⟩ := open_intsV (hval 1 _ v1 rfl rfl) h1 (by omega)
  have walk : Calls Try.prog 6 #[.agg cs0, .slice A1 ks1.length cap1] W (BoolBelow true W) := by
    exact main_all W hin0 hh0 hl0 ks1 A1 cap1 hks1 hkc1
  refine walk.mono fun e W' h => ?_
  obtain ⟨rfl, hbel⟩ := h
  exact ⟨_, rfl, post_true readable rfl hW' rfl rfl hbel⟩

set_option maxRecDepth 100000 in
theorem lifted (os : Os) (started : os.Started) (H : Type) (enc : TypeId × Value → H) (F : Stop.Interp) :
    ReturnsInHanded {} Try.checked os 6 .any ((Rows.OpenSpec.upto Rows.fevalMainSpec).pre6 enc Try.prog Try.f6 Rows.fevalMainUptoRow.domain false) (((Rows.OpenSpec.upto Rows.fevalMainSpec).at F).post enc Try.prog Try.f6 false true false false) := by
  refine returnsInHanded_of_cond (C := Try.checked) (s := Rows.OpenSpec.upto Rows.fevalMainSpec) (k := Rows.uptoSmall) rfl own started (by kernel_rfl) Try.func6
    (OpenSpec.witness (enc := enc) (C := Try.checked) (s := Rows.OpenSpec.upto Rows.fevalMainSpec) (k := Rows.uptoSmall) rfl false ⟨#[], #[.agg #[.slice none 0 0, .slice none 0 0, .bool false, .int .i64 0], .slice none 0 0], []⟩ 8 (by kernel_rfl) (by kernel_rfl) (by kernel_rfl)
      (x := ([.agg [.nil, .agg [.nil, .agg [.lit (.bool false), .lit (.int .i64 0)]]], .nil], [], [])) (by kernel_rfl) rfl (by kernel_rfl)) ?_
  intro W base args ds gs before hval hW _ hk _
  exact contract H enc W base args ds gs before hval hW hk

theorem saidUpto : Rows.FevalMainUptoSaid :=
  OpenClaim.holds_of_cond 6 Try.f6 rfl rfl rfl rfl rfl rfl rfl ⟨rfl, rfl, rfl, rfl, rfl⟩ rfl rfl rfl rfl rfl (by kernel_rfl) Try.func6 (by kernel_rfl)
    (of_decide_eq_true (by kernel_rfl)) (by unfold Func.isWrapper; first | (rw [if_pos (by decide +kernel)]; kernel_rfl) | (rw [if_neg (by decide +kernel)]; exact ⟨rfl, rfl⟩))
    (fun os started H enc _ F => lifted os started H enc F)
end fevalMain
end Go.Proofs.Ytnobggabjpcbfaa
