/-
  num.Do: what is done with two ints.
-/
import Derived.Test.YtnolhcdfknjncaaDoorE2
set_option linter.unusedVariables false
set_option linter.unusedSimpArgs false
namespace Go.Proofs.YtnolhcdfknjncaaDoor
open Go.RowKit

theorem doer_at0 (x0 x1 x2 x3 x4 x5 x6 x7 x8 : Value) (w : World) : (Instr.index 150 (.agg #[x0, x1, x2, x3, x4, x5, x6, x7, x8]) (.int .i64 0)).run Tryd.prog w = .ok (.agg #[x0]) w := by kernel_rfl
theorem doer_at1 (x0 x1 x2 x3 x4 x5 x6 x7 x8 : Value) (w : World) : (Instr.index 150 (.agg #[x0, x1, x2, x3, x4, x5, x6, x7, x8]) (.int .i64 1)).run Tryd.prog w = .ok (.agg #[x1]) w := by kernel_rfl
theorem doer_at2 (x0 x1 x2 x3 x4 x5 x6 x7 x8 : Value) (w : World) : (Instr.index 150 (.agg #[x0, x1, x2, x3, x4, x5, x6, x7, x8]) (.int .i64 2)).run Tryd.prog w = .ok (.agg #[x2]) w := by kernel_rfl
theorem doer_at3 (x0 x1 x2 x3 x4 x5 x6 x7 x8 : Value) (w : World) : (Instr.index 150 (.agg #[x0, x1, x2, x3, x4, x5, x6, x7, x8]) (.int .i64 3)).run Tryd.prog w = .ok (.agg #[x3]) w := by kernel_rfl
theorem doer_at4 (x0 x1 x2 x3 x4 x5 x6 x7 x8 : Value) (w : World) : (Instr.index 150 (.agg #[x0, x1, x2, x3, x4, x5, x6, x7, x8]) (.int .i64 4)).run Tryd.prog w = .ok (.agg #[x4]) w := by kernel_rfl
theorem doer_at5 (x0 x1 x2 x3 x4 x5 x6 x7 x8 : Value) (w : World) : (Instr.index 150 (.agg #[x0, x1, x2, x3, x4, x5, x6, x7, x8]) (.int .i64 5)).run Tryd.prog w = .ok (.agg #[x5]) w := by kernel_rfl
theorem doer_at6 (x0 x1 x2 x3 x4 x5 x6 x7 x8 : Value) (w : World) : (Instr.index 150 (.agg #[x0, x1, x2, x3, x4, x5, x6, x7, x8]) (.int .i64 6)).run Tryd.prog w = .ok (.agg #[x6]) w := by kernel_rfl
theorem doer_at7 (x0 x1 x2 x3 x4 x5 x6 x7 x8 : Value) (w : World) : (Instr.index 150 (.agg #[x0, x1, x2, x3, x4, x5, x6, x7, x8]) (.int .i64 7)).run Tryd.prog w = .ok (.agg #[x7]) w := by kernel_rfl
theorem doer_at8 (x0 x1 x2 x3 x4 x5 x6 x7 x8 : Value) (w : World) : (Instr.index 150 (.agg #[x0, x1, x2, x3, x4, x5, x6, x7, x8]) (.int .i64 8)).run Tryd.prog w = .ok (.agg #[x8]) w := by kernel_rfl
theorem doer_do (fn : Fn) (fi ca : Array Value) (w : World) : (Instr.field 149 (.agg #[.func fn fi ca]) 0).run Tryd.prog w = .ok (.func fn fi ca) w := by kernel_rfl
attribute [go_sem ↓] doer_do doer_at0 doer_at1 doer_at2 doer_at3 doer_at4 doer_at5 doer_at6 doer_at7 doer_at8

def DoPost (p a b : Int) (w : World) (e : Ending) (w' : World) : Prop := (∃ n, doP p a b = some n ∧ e = .returned (.tuple #[.int .i64 n, .int .i64 0]) ∧ Below w.heap.size w w') ∨ (doP p a b = none ∧ e = .returned (.tuple #[.int .i64 0, .int .i64 2]) ∧ Below w.heap.size w w')
theorem wrap31_wrap64 (n : Int) : wrap31 (wrap64 n) = wrap31 n := by unfold wrap31 wrap64; omega
theorem wrap31_range (n : Int) : -1073741824 ≤ wrap31 n ∧ wrap31 n ≤ 1073741823 := by unfold wrap31; omega
theorem tup_int {a b c d : Int} (h1 : a = b) (h2 : c = d) : Ending.returned (.tuple #[.int .i64 a, .int .i64 c]) = .returned (.tuple #[.int .i64 b, .int .i64 d]) := by rw [h1, h2]
theorem doP_1 (a b : Int) : doP 1 a b = some (wrap31 (wrap31 a + wrap31 b)) := by simp [doP]
theorem doP_2 (a b : Int) : doP 2 a b = some (wrap31 (wrap31 a - wrap31 b)) := by simp [doP]
theorem doP_3 (a b : Int) : doP 3 a b = some (wrap31 (wrap31 a * wrap31 b)) := by simp [doP]
theorem doP_4 (a b : Int) (h : wrap31 b ≠ 0) : doP 4 a b = some (wrap31 ((wrap31 a).tdiv (wrap31 b))) := by simp [doP, h]
theorem doP_5 (a b : Int) (h : wrap31 b ≠ 0) : doP 5 a b = some (wrap31 ((wrap31 a).tmod (wrap31 b))) := by simp [doP, h]
theorem doP_6 (a b : Int) : doP 6 a b = some (wrap31 (if wrap31 a = wrap31 b then 1 else 0)) := by simp [doP]
theorem doP_7 (a b : Int) : doP 7 a b = some (wrap31 (if wrap31 a ≠ wrap31 b then 1 else 0)) := by simp [doP]
theorem doP_8 (a b : Int) : doP 8 a b = some (wrap31 (if wrap31 a < wrap31 b then 1 else 0)) := by simp [doP]
theorem doP_9 (a b : Int) : doP 9 a b = some (wrap31 (if wrap31 a ≤ wrap31 b then 1 else 0)) := by simp [doP]
set_option maxRecDepth 100000 in
set_option maxHeartbeats 1000000 in
theorem do_small (p a b : Int) (hp : p = 1 ∨ p = 2 ∨ p = 3) (w : World) : Calls Tryd.prog 72 #[.int .i64 p, .int .i64 a, .int .i64 b] w (DoPost p a b w) := by
  rcases hp with rfl | rfl | rfl
  all_goals
    go_enter Tryd.func72, Tryd.ntmps72
    go_wp2_with (first | (go_at_call 70; refine (wrap_any _ _).mono ?_; rintro e w' ⟨rfl, rfl⟩) | (go_at_call 87; refine (doers_any _).mono ?_; rintro e w1 ⟨b6, b7, b8, b9, rfl, h6, h7, h8, h9, hb1⟩) | (go_at_call 95; go_in) | (go_at_call 96; go_in) | (go_at_call 97; go_in))
    go_ret2
    first | exact .inl ⟨_, doP_1 a b, tup_int (by rw [wrap31_wrap64]) rfl, hb1⟩ | exact .inl ⟨_, doP_2 a b, tup_int (by rw [wrap31_wrap64]) rfl, hb1⟩ | exact .inl ⟨_, doP_3 a b, tup_int (by rw [wrap31_wrap64]) rfl, hb1⟩
set_option maxRecDepth 100000 in
set_option maxHeartbeats 1000000 in
theorem do_div (p a b : Int) (hp : p = 4 ∨ p = 5) (w : World) : Calls Tryd.prog 72 #[.int .i64 p, .int .i64 a, .int .i64 b] w (DoPost p a b w) := by
  by_cases hb : wrap31 b = 0
  · have hd : doP p a b = none := by simp [doP, hb, hp]
    have hb' : (wrap31 b == 0) = true := by simpa using hb
    have HD := Lib.hid hd
    clear hd
    rcases hp with rfl | rfl
    all_goals
      go_enter Tryd.func72, Tryd.ntmps72
      go_wp2_with (first | (go_at_call 70; refine (wrap_any _ _).mono ?_; rintro e w' ⟨rfl, rfl⟩) | (go_at_call 87; refine (doers_any _).mono ?_; rintro e w1 ⟨b6, b7, b8, b9, rfl, h6, h7, h8, h9, hb1⟩) )
      go_ret2
      exact .inr ⟨HD.out, rfl, Below.refl _ _⟩
  · have hb' : (wrap31 b == 0) = false := by simpa using hb
    rcases hp with rfl | rfl
    all_goals
      go_enter Tryd.func72, Tryd.ntmps72
      go_wp2_with (first | (go_at_call 70; refine (wrap_any _ _).mono ?_; rintro e w' ⟨rfl, rfl⟩) | (go_at_call 87; refine (doers_any _).mono ?_; rintro e w1 ⟨b6, b7, b8, b9, rfl, h6, h7, h8, h9, hb1⟩) | (go_at_call 98; go_in) | (go_at_call 99; go_in))
      go_ret2
      first | exact .inl ⟨_, doP_4 a b hb, tup_int (by first | rw [wrap31_wrap64] | rfl) rfl, hb1⟩ | exact .inl ⟨_, doP_5 a b hb, tup_int (by first | rw [wrap31_wrap64] | rfl) rfl, hb1⟩
set_option maxRecDepth 100000 in
set_option maxHeartbeats 2000000 in
theorem do_cmp (p a b : Int) (hp : p = 6 ∨ p = 7 ∨ p = 8 ∨ p = 9) (w : World) : Calls Tryd.prog 72 #[.int .i64 p, .int .i64 a, .int .i64 b] w (DoPost p a b w) := by
  rcases hp with rfl | rfl | rfl | rfl
  all_goals
    go_enter Tryd.func72, Tryd.ntmps72
    go_wp2_with (first | (go_at_call 70; refine (wrap_any _ _).mono ?_; rintro e w' ⟨rfl, rfl⟩) | (go_at_call 87; refine (doers_any _).mono ?_; rintro e w1 ⟨b6, b7, b8, b9, rfl, h6, h7, h8, h9, hb1⟩) | (go_at_call 93; go_in) | (go_at_call 94; go_in) | (go_at_call 100; go_in) | (go_at_call 101; go_in) | (go_at_call 102; go_in) | (go_at_call 103; go_in))
    all_goals
      go_ret2
      first
        | exact .inl ⟨_, doP_6 a b, tup_int (by simp_all) rfl, hb1⟩
        | exact .inl ⟨_, doP_7 a b, tup_int (by simp_all) rfl, hb1⟩
        | exact .inl ⟨_, doP_8 a b, tup_int (by first | rw [if_pos (by omega)] | rw [if_neg (by omega)]) rfl, hb1⟩
        | exact .inl ⟨_, doP_9 a b, tup_int (by first | rw [if_pos (by omega)] | rw [if_neg (by omega)]) rfl, hb1⟩

theorem do_any (p a b : Int) (h1 : 1 ≤ p) (h2 : p ≤ 9) (w : World) : Calls Tryd.prog 72 #[.int .i64 p, .int .i64 a, .int .i64 b] w (DoPost p a b w) := by
  by_cases h3 : p = 1 ∨ p = 2 ∨ p = 3
  · exact do_small p a b h3 w
  by_cases h4 : p = 4 ∨ p = 5
  · exact do_div p a b h4 w
  exact do_cmp p a b (by omega) w

end Go.Proofs.YtnolhcdfknjncaaDoor
