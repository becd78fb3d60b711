/-
  What the claims' frames share: what the listed table holds, the arguments opened.
-/
import Derived.Test.YtnolhcdfknjncaaDoorL5
set_option linter.unusedVariables false
set_option linter.unusedSimpArgs false
namespace Go.Proofs.YtnolhcdfknjncaaDoor
open Go.ChangeShapes Go.WideShapes Go.RowKit

theorem own : ownKnob Tryd.prog.godebug = none := by kernel_rfl
theorem gKids : Tryd.prog.globalNamed "camlet/core.kids" = some 0 := by kernel_rfl
theorem gKidsType : (Tryd.prog.globals[0]?).map (·.type) = some 142 := by kernel_rfl
theorem cellsKids : Tryd.prog.cellsOf 142 = 11 := by kernel_rfl

set_option maxRecDepth 100000 in
theorem table {W : World} (h : laidMetH Tryd.prog [("camlet/core.kids", Rows.laid_camlet_core_kids)] W) : Lib.TabIs Tryd.prog W "camlet/core.kids" .i64 [0, 0, 0, 1, 2, 2, -1, -1, 1, -1, -1] :=
  Lib.tabIs_of_head (rest := []) gKids gKidsType Tryd.underlying142 Tryd.underlying3 cellsInt cellsKids h
set_option maxRecDepth 100000 in
theorem ready_of_laid {W : World} (h : laidMetH Tryd.prog [("camlet/core.kids", Rows.laid_camlet_core_kids)] W) : Ready W := by
  have ht := table h
  refine ⟨fun i hi => ?_, World.block_lt_of_cell? _ _ (ht.cell gKids 0 (by decide))⟩
  have := ht.cell gKids i hi
  rw [this]
  have hall : ∀ i < 11, ([0, 0, 0, 1, 2, 2, -1, -1, 1, -1, -1] : List Int).getD i 0 = (kidsL[i]?.getD 0) := by decide
  rw [hall i hi]

set_option maxRecDepth 100000
section
variable {H : Type} {enc : TypeId × Value → H} {W : World}
set_option maxRecDepth 100000 in
theorem open_core {r : Reach} {b0 : Nat} {v : Value} {d : DataW H} {ps : List MemPlace} (hval : Value.okWide Tryd.prog W r b0 26 v) (hd : DataW.Trod enc Tryd.prog W 0 (fun _ => true) true 26 v d ps) (hb : Rows.uptoBulk d ≤ 1048576) :
    ∃ t cs, v = .agg cs ∧ CoreIn W.heap.size W t cs ∧ t.hgt ≤ 1048576 := by
  obtain ⟨cs, rfl, _⟩ := okWide_struct Tryd.underlying26 hval
  obtain ⟨fuel, hf⟩ := hd
  obtain ⟨t, v0, v1, v2, v3, hcs, hin, hh⟩ := core_of_trod fuel _ _ hf hb
  obtain rfl : cs = #[v0, v1, v2, v3] := by
    have : cs.toList = [v0, v1, v2, v3] := by simpa [Value.cells] using hcs
    cases cs; simp_all
  exact ⟨t, _, rfl, hin, Nat.le_trans hh hb⟩
set_option maxRecDepth 100000 in
theorem open_intsV {r : Reach} {b0 : Nat} {v : Value} {d : DataW H} {ps : List MemPlace} (hval : Value.okWide Tryd.prog W r b0 23 v) (hd : DataW.Trod enc Tryd.prog W 0 (fun _ => true) true 23 v d ps) (hb : Rows.uptoBulk d ≤ 1048576) :
    ∃ (A : Option Addr) (cap : Nat) (ks : List Int), v = .slice A ks.length cap ∧ IntsIn W.heap.size W A ks ∧ ks.length ≤ cap ∧ ks.length ≤ 1048576 := by
  obtain ⟨a, len, cap, rfl⟩ := okWide_slice Tryd.underlying23 hval
  obtain ⟨fuel, hf⟩ := hd
  exact ints_of_trod (c := .slice a len cap) (by simpa [Value.cells] using hf) hb
end
theorem bound {H : Type} {l : List (DataW H)} (hk : Rows.uptoSmall H l = true) : Rows.uptoBulkAll l ≤ 1048576 := by
  simpa [Rows.uptoSmall] using hk

/-- a world for the witness -/
noncomputable def laidWorld (os : Os) : World :=
  { World.holding Tryd.prog os ⟨#[], #[], []⟩ with heap := (World.holding Tryd.prog os ⟨#[], #[], []⟩).heap.modify 0 fun
      | .cells _ t frozen => .cells #[.int .i64 0, .int .i64 0, .int .i64 0, .int .i64 1, .int .i64 2, .int .i64 2, .int .i64 (-1), .int .i64 (-1), .int .i64 1, .int .i64 (-1), .int .i64 (-1)] t frozen
      | o => o }
end Go.Proofs.YtnolhcdfknjncaaDoor
