/-
  The program's evaluator: terms to whatever depth; a run's end.
-/
import Derived.Test.YtnolhcdfknjncaaDoorT9
set_option linter.unusedVariables false
set_option linter.unusedSimpArgs false
namespace Go.Proofs.YtnolhcdfknjncaaDoor
open Go.RowKit

theorem term_ok (rb B : Nat) (inp : List Int) (fuel : Nat) : ∀ n, TermOk rb B inp fuel n
  | 0 => fun t e s m W gt ge _ _ _ _ h => absurd h (Nat.not_lt_zero _)
  | n + 1 => fun t e s m W gt ge hin hwt he hg hn => by
    have hok := term_ok rb B inp fuel n
    unfold ev
    by_cases h0 : s.left = 0
    · rw [if_pos h0]; exact term_cut (n := n) hg hin he h0
    · rw [if_neg h0]
      have hl : 0 < s.left := Nat.pos_of_ne_zero h0
      have hk1 := hwt.node.1
      have hk2 := hwt.node.2.1
      have hk : t.k = 1 ∨ t.k = 2 ∨ t.k = 3 ∨ t.k = 4 ∨ t.k = 5 ∨ t.k = 6 ∨ t.k = 7 ∨ t.k = 8 ∨ t.k = 9 ∨ t.k = 10 := by omega
      rcases hk with hk | hk | hk | hk | hk | hk | hk | hk | hk | hk
      · exact term_var hok hg hin hwt he hn hl hk
      · exact term_int hok hg hin hwt he hn hl hk
      · exact term_fn hok hg hin hwt he hn hl hk
      · exact term_app hok hg hin hwt he hn hl hk
      · exact term_let hok hg hin hwt he hn hl hk
      · exact term_fix hok hg hin hwt he hn hl hk
      · exact term_block hok hg hin hwt he hn hl hk
      · exact term_field hok hg hin hwt he hn hl hk
      · exact term_switch hok hg hin hwt he hn hl hk
      · exact term_prim hok hg hin hwt he hn hl hk

/-! ### the deferred closure -/
theorem whole1_idle (rv rb : Nat) (x : Value) (V : World) (hr : V.cell? ⟨rv, 0, none⟩ = some (.pointer (some ⟨rb, 0, none⟩))) (h2 : V.cell? ⟨rb, 2, none⟩ = some (.int .i64 0)) (f2 : V.frozen? ⟨rb, 2, none⟩ = false) :
    CallsD Tryd.prog 36 #[.pointer (some ⟨rv, 0, none⟩)] .returning V fun e u' w' => e = .returned (.tuple #[]) ∧ u' = .returning ∧ w' = V.setCell ⟨rb, 2, none⟩ (.int .i64 1) := by
  refine callsD_of_wpS Tryd.func36 rfl fun c₀ cs hu => ?_
  apply wpS_seq
  apply wpS_region
  simp [wpOpsS, go_sem, recoverD, hu, Tryd.ntmps36, Exit.thenS]
  refine wpS_of_wp (Code.wp_mono (Q := fun e a w' => e = .normal ∧ a.defers = [] ∧ w' = V.setCell ⟨rb, 2, none⟩ (.int .i64 1)) ?_ ?_)
  · rintro e a w' ⟨rfl, h1, rfl⟩
    cases c₀
    simp_all [bodyPostS, results, Tryd.results36]
  simp only [Array.replicate_succ, Array.replicate_zero, List.push_toArray, List.setIfInBounds_toArray, List.set_cons_zero, List.set_cons_succ, List.append_toArray, List.nil_append, List.cons_append]
  clear hu
  go_wp2_with fail

theorem whole1_stop (rv rb : Nat) (k : Int) (older : List PanicEntry) (V : World) (hr : V.cell? ⟨rv, 0, none⟩ = some (.pointer (some ⟨rb, 0, none⟩))) (h2 : V.cell? ⟨rb, 2, none⟩ = some (.int .i64 0)) (f2 : V.frozen? ⟨rb, 2, none⟩ = false) :
    CallsD Tryd.prog 36 #[.pointer (some ⟨rv, 0, none⟩)] (.panicking ({ v := .iface 79 (.agg #[.int .i64 k]), recovered := false } :: older)) V
      fun e u' w' => e = .returned (.tuple #[]) ∧ u' = .panicking ({ v := .iface 79 (.agg #[.int .i64 k]), recovered := true } :: older) ∧ w' = (V.alloc (.cells #[.int .i64 k] 79)).setCell ⟨rb, 2, none⟩ (.int .i64 k) := by
  have hrl := World.block_lt_of_cell? _ _ hr
  have h2l := World.block_lt_of_cell? _ _ h2
  have hn := World.new_ne _ _ hr
  have hn' := World.new_ne _ _ h2
  refine callsD_of_wpS Tryd.func36 rfl fun c₀ cs hu => ?_
  apply wpS_seq
  apply wpS_region
  simp [wpOpsS, go_sem, recoverD, hu, Tryd.ntmps36, Exit.thenS]
  refine wpS_of_wp (Code.wp_mono (Q := fun e a w' => e = .normal ∧ a.defers = [] ∧ w' = (V.alloc (.cells #[.int .i64 k] 79)).setCell ⟨rb, 2, none⟩ (.int .i64 k)) ?_ ?_)
  · rintro e a w' ⟨rfl, h1, rfl⟩
    cases c₀
    simp_all [bodyPostS, results, Tryd.results36]
  simp only [Array.replicate_succ, Array.replicate_zero, List.push_toArray, List.setIfInBounds_toArray, List.set_cons_zero, List.set_cons_succ, List.append_toArray, List.nil_append, List.cons_append]
  clear hu
  go_wp2_with fail

theorem whole1_raised (rv rb : Nat) (k : Int) (T : TypeId) (y : Value) (older : List PanicEntry) (V : World) (hr : V.cell? ⟨rv, 0, none⟩ = some (.pointer (some ⟨rb, 0, none⟩))) (h2 : V.cell? ⟨rb, 2, none⟩ = some (.int .i64 0)) (f2 : V.frozen? ⟨rb, 2, none⟩ = false) (h3 : V.cell? ⟨rb, 3, none⟩ = some (.int .i64 0)) (f3 : V.frozen? ⟨rb, 3, none⟩ = false) (hne : rv ≠ rb)
    (hkey : Calls Tryd.prog 37 #[.iface T y] ((V.setCell ⟨rb, 2, none⟩ (.int .i64 4)).alloc (.cells #[.iface T y] 81)) fun e w' => e = .returned (.int .i64 k) ∧ (V.setCell ⟨rb, 2, none⟩ (.int .i64 4)).alloc (.cells #[.iface T y] 81) = w') :
    CallsD Tryd.prog 36 #[.pointer (some ⟨rv, 0, none⟩)] (.panicking ({ v := .iface 81 (.agg #[.iface T y]), recovered := false } :: older)) V
      fun e u' w' => e = .returned (.tuple #[]) ∧ u' = .panicking ({ v := .iface 81 (.agg #[.iface T y]), recovered := true } :: older) ∧
        w' = if 0 ≤ k then (((V.setCell ⟨rb, 2, none⟩ (.int .i64 4)).alloc (.cells #[.iface T y] 81)).setCell ⟨rb, 2, none⟩ (.int .i64 2)).setCell ⟨rb, 3, none⟩ (.int .i64 k) else (V.setCell ⟨rb, 2, none⟩ (.int .i64 4)).alloc (.cells #[.iface T y] 81) := by
  have hrl := World.block_lt_of_cell? _ _ hr
  have h2l := World.block_lt_of_cell? _ _ h2
  have hn := World.new_ne _ _ hr
  have hn' := World.new_ne _ _ h2
  refine callsD_of_wpS Tryd.func36 rfl fun c₀ cs hu => ?_
  apply wpS_seq
  apply wpS_region
  simp [wpOpsS, go_sem, recoverD, hu, Tryd.ntmps36, Exit.thenS]
  refine wpS_of_wp (Code.wp_mono (Q := fun e a w' => e = .normal ∧ a.defers = [] ∧ w' = if 0 ≤ k then (((V.setCell ⟨rb, 2, none⟩ (.int .i64 4)).alloc (.cells #[.iface T y] 81)).setCell ⟨rb, 2, none⟩ (.int .i64 2)).setCell ⟨rb, 3, none⟩ (.int .i64 k) else (V.setCell ⟨rb, 2, none⟩ (.int .i64 4)).alloc (.cells #[.iface T y] 81)) ?_ ?_)
  · rintro e a w' ⟨rfl, h1, rfl⟩
    cases c₀
    simp_all [bodyPostS, results, Tryd.results36]
  simp only [Array.replicate_succ, Array.replicate_zero, List.push_toArray, List.setIfInBounds_toArray, List.set_cons_zero, List.set_cons_succ, List.append_toArray, List.nil_append, List.cons_append]
  have HK := Lib.hid hkey
  clear hu hkey
  by_cases hk : 0 ≤ k
  · rw [if_pos hk]
    go_wp2_with (go_at_call 37; refine HK.out.mono ?_; rintro e w' ⟨rfl, rfl⟩)
  · rw [if_neg hk]
    have hk' : k < 0 := by omega
    go_wp2_with (go_at_call 37; refine HK.out.mono ?_; rintro e w' ⟨rfl, rfl⟩)
end Go.Proofs.YtnolhcdfknjncaaDoor
