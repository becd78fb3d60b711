/-
  1 texts of this seat in one: EA.
-/
import Derived.Test.YtnolhcdfknjncaaDoorQL
/-
  An end that lies in a variable.
-/
set_option linter.unusedVariables false
set_option linter.unusedSimpArgs false
namespace Go.Proofs.YtnolhcdfknjncaaDoor
open Go.RowKit

/-- an end that lies in a variable -/
def EndAt (V : World) (X : Nat) (pe : PEnd) : Prop := ∃ A c, V.heap[X]? = some (.cells #[.int .i64 pe.kind, .int .i64 pe.n, .slice A pe.out.length c, .int .i64 pe.steps] 31 (0, 0)) ∧ IntsIn V.heap.size V A pe.out

theorem EndAt.below {V V2 : World} {X : Nat} {pe : PEnd} (h : EndAt V X pe) (hb : Below V.heap.size V V2) : EndAt V2 X pe := by
  obtain ⟨A, c, h1, hi⟩ := h
  have hX : X < V.heap.size := by
    rcases Nat.lt_or_ge X V.heap.size with h | h
    · exact h
    · rw [Array.getElem?_eq_none (by omega)] at h1; cases h1
  exact ⟨A, c, (hb.block X hX).trans h1, (hi.below hb).mono hb.size⟩
theorem end_zero (V V2 : World) (hb : Below (V.alloc (.cells #[.int .i64 0, .int .i64 0, .slice none 0 0, .int .i64 0] 31)).drew.heap.size (V.alloc (.cells #[.int .i64 0, .int .i64 0, .slice none 0 0, .int .i64 0] 31)).drew V2) : V2.heap[V.heap.size]? = some (.cells #[.int .i64 0, .int .i64 0, .slice none 0 0, .int .i64 0] 31 (0, 0)) :=
  (hb.block V.heap.size (show V.heap.size < (V.alloc (.cells #[.int .i64 0, .int .i64 0, .slice none 0 0, .int .i64 0] 31)).heap.size from by rw [World.size_alloc]; exact Nat.lt_succ_self _)).trans (World.alloc_heap_new V _)
/-- the run first, its end then laid -/
theorem end_new {V2 : World} {B : Option Addr} {d : Nat} {pb : PEnd} (hE : EndV V2 pb (.agg #[.int .i64 pb.kind, .int .i64 pb.n, .slice B pb.out.length d, .int .i64 pb.steps])) :
    EndAt (V2.alloc (.cells #[.int .i64 pb.kind, .int .i64 pb.n, .slice B pb.out.length d, .int .i64 pb.steps] 31)) V2.heap.size pb := by
  have FE := hE.below (w' := V2.alloc (.cells #[.int .i64 pb.kind, .int .i64 pb.n, .slice B pb.out.length d, .int .i64 pb.steps] 31)) ((Below.refl _ _).alloc (Nat.le_refl _) _)
  obtain ⟨A', c', heq, hi⟩ := FE
  simp only [Value.agg.injEq, Array.mk.injEq, List.cons.injEq, Value.slice.injEq, true_and, and_true] at heq
  obtain ⟨rfl, rfl⟩ := heq
  exact ⟨_, _, World.alloc_heap_new V2 _, hi⟩
/-- the end's place first, filled behind the run -/
theorem end_set {V V2 : World} {B : Option Addr} {d : Nat} {pb : PEnd} (hb : Below (V.alloc (.cells #[.int .i64 0, .int .i64 0, .slice none 0 0, .int .i64 0] 31)).drew.heap.size (V.alloc (.cells #[.int .i64 0, .int .i64 0, .slice none 0 0, .int .i64 0] 31)).drew V2) (hlo : ∀ a, B = some a → (V.alloc (.cells #[.int .i64 0, .int .i64 0, .slice none 0 0, .int .i64 0] 31)).drew.heap.size ≤ a.block) (hE : EndV V2 pb (.agg #[.int .i64 pb.kind, .int .i64 pb.n, .slice B pb.out.length d, .int .i64 pb.steps])) :
    EndAt ((((V2.setCell ⟨V.heap.size, 0, none⟩ (.int .i64 pb.kind)).setCell ⟨V.heap.size, 1, none⟩ (.int .i64 pb.n)).setCell ⟨V.heap.size, 2, none⟩ (.slice B pb.out.length d)).setCell ⟨V.heap.size, 3, none⟩ (.int .i64 pb.steps)) V.heap.size pb := by
  have hz := end_zero V V2 hb
  obtain ⟨A', c', heq, hi1, hi2⟩ := hE
  simp only [Value.agg.injEq, Array.mk.injEq, List.cons.injEq, Value.slice.injEq, true_and, and_true] at heq
  obtain ⟨rfl, rfl⟩ := heq
  refine ⟨B, d, ?_, hi1, ?_⟩
  · rw [heap_set_self (heap_set_self (heap_set_self (heap_set_self hz 0 _) 1 _) 2 _) 3 _]; rfl
  · rcases hi2 with h0 | ⟨b, o, rfl, hlt, hc⟩
    · exact .inl h0
    · have hb := hlo _ rfl
      have hs : (V.alloc (.cells #[.int .i64 0, .int .i64 0, .slice none 0 0, .int .i64 0] 31)).drew.heap.size = V.heap.size + 1 := by show (V.alloc _).heap.size = _; rw [World.size_alloc]
      have hne : b ≠ V.heap.size := by
        have : V.heap.size + 1 ≤ b := hs ▸ hb
        omega
      refine .inr ⟨b, o, rfl, by simpa [World.setCell] using hlt, fun j hj => ?_⟩
      refine (cell_of_heap ?_ _).trans (hc j hj)
      rw [heap_set_ne hne, heap_set_ne hne, heap_set_ne hne, heap_set_ne hne]

end Go.Proofs.YtnolhcdfknjncaaDoor
