/-
  5 texts of this seat in one: PH2 PH3 PH4 PH5 PH6.
-/
import Derived.Test.YtllakbiipdcboaaDoorQA2
import Derived.Deep.LoopGhost
import Derived.Deep.RegionHeld
import Derived.Deep.RegionHeld2
/-
  num.Wrap, num.Do: what is done with two ints.
-/
set_option linter.unusedVariables false
set_option linter.unusedSimpArgs false
namespace Go.Proofs.YtllakbiipdcboaaDoor
open Go.RowKit

theorem wrap_any (n : Int) (w : World) :
    Calls Tryd.prog 35 #[.int .i64 n] w fun e w' => e = .returned (.int .i64 (wrap31 n)) ∧ w = w' := by
  go_enter Tryd.func35, Tryd.ntmps35
  go_wp2
  go_ret
  exact ⟨ret_int (wrap31_eq n), rfl⟩
def AsksPost (g : Nat) (w : World) (e : Ending) (w' : World) : Prop :=
  ∃ b, e = .returned (.agg #[.func (.func 73) #[] #[.pointer (some ⟨b, 0, none⟩)]]) ∧ w'.cell? ⟨b, 0, none⟩ = some (.func (.func g) #[] #[]) ∧ w.heap.size ≤ b ∧ Below w.heap.size w w'
theorem asks_any (g : Nat) (w : World) : Calls Tryd.prog 72 #[.func (.func g) #[] #[]] w (AsksPost g w) := by
  go_enter Tryd.func72, Tryd.ntmps72
  go_wp2_with fail
  refine bodyPost_ret (v := .agg #[.func (.func 73) #[] #[.pointer (some ⟨w.heap.size, 0, none⟩)]]) (by simp [results, Tryd.results72, go_sem]) rfl ?_
  exact ⟨w.heap.size, rfl, by rw [World.cell?_alloc_past _ _ _ (by simp), World.cell?_alloc_at _ _ _ _ rfl]; rfl, Nat.le_refl _, ((Below.refl _ _).alloc (Nat.le_refl _) _).alloc (by simp) _⟩

def DoersPost (w : World) (e : Ending) (w' : World) : Prop :=
  ∃ b6 b7 b8 b9, e = .returned (.agg #[.func (.func 75) #[] #[], .func (.func 76) #[] #[], .func (.func 77) #[] #[], .func (.func 78) #[] #[], .func (.func 79) #[] #[],
      .func (.func 73) #[] #[.pointer (some ⟨b6, 0, none⟩)], .func (.func 73) #[] #[.pointer (some ⟨b7, 0, none⟩)], .func (.func 73) #[] #[.pointer (some ⟨b8, 0, none⟩)], .func (.func 73) #[] #[.pointer (some ⟨b9, 0, none⟩)]]) ∧
    w'.cell? ⟨b6, 0, none⟩ = some (.func (.func 80) #[] #[]) ∧ w'.cell? ⟨b7, 0, none⟩ = some (.func (.func 81) #[] #[]) ∧ w'.cell? ⟨b8, 0, none⟩ = some (.func (.func 82) #[] #[]) ∧ w'.cell? ⟨b9, 0, none⟩ = some (.func (.func 83) #[] #[]) ∧ Below w.heap.size w w'
set_option maxHeartbeats 1000000 in
theorem doers_any (w : World) : Calls Tryd.prog 60 #[] w (DoersPost w) := by
  go_enter Tryd.func60, Tryd.ntmps60
  go_wp2_with fail
  refine (asks_any _ _).mono ?_
  rintro e w1 ⟨b6, rfl, h6, hl6, hb1⟩
  go_wp2_with fail
  refine (asks_any _ _).mono ?_
  rintro e w2 ⟨b7, rfl, h7, hl7, hb2⟩
  go_wp2_with fail
  refine (asks_any _ _).mono ?_
  rintro e w3 ⟨b8, rfl, h8, hl8, hb3⟩
  go_wp2_with fail
  refine (asks_any _ _).mono ?_
  rintro e w4 ⟨b9, rfl, h9, hl9, hb4⟩
  have hw0 : (w.alloc (.cells #[Value.nilFunc, Value.nilFunc, Value.nilFunc, Value.nilFunc, Value.nilFunc, Value.nilFunc, Value.nilFunc, Value.nilFunc, Value.nilFunc] 126)).heap[w.heap.size]? = some (.cells #[Value.nilFunc, Value.nilFunc, Value.nilFunc, Value.nilFunc, Value.nilFunc, Value.nilFunc, Value.nilFunc, Value.nilFunc, Value.nilFunc] 126) := World.alloc_heap_new w _
  have s1 := hb1.size
  have s2 := hb2.size
  have s3 := hb3.size
  have s4 := hb4.size
  simp only [World.size_alloc] at s1 hl6
  have hw4 : w4.heap[w.heap.size]? = some (.cells #[Value.nilFunc, Value.nilFunc, Value.nilFunc, Value.nilFunc, Value.nilFunc, Value.nilFunc, Value.nilFunc, Value.nilFunc, Value.nilFunc] 126) :=
    (hb4.block _ (by omega)).trans ((hb3.block _ (by omega)).trans ((hb2.block _ (by omega)).trans ((hb1.block _ (by simp)).trans hw0)))
  have k0 : w4.cell? ⟨w.heap.size, 0, none⟩ = some .nilFunc := by simp [World.cell?, hw4]
  have k1 : w4.cell? ⟨w.heap.size, 1, none⟩ = some .nilFunc := by simp [World.cell?, hw4]
  have k2 : w4.cell? ⟨w.heap.size, 2, none⟩ = some .nilFunc := by simp [World.cell?, hw4]
  have k3 : w4.cell? ⟨w.heap.size, 3, none⟩ = some .nilFunc := by simp [World.cell?, hw4]
  have k4 : w4.cell? ⟨w.heap.size, 4, none⟩ = some .nilFunc := by simp [World.cell?, hw4]
  have k5 : w4.cell? ⟨w.heap.size, 5, none⟩ = some .nilFunc := by simp [World.cell?, hw4]
  have k6 : w4.cell? ⟨w.heap.size, 6, none⟩ = some .nilFunc := by simp [World.cell?, hw4]
  have k7 : w4.cell? ⟨w.heap.size, 7, none⟩ = some .nilFunc := by simp [World.cell?, hw4]
  have k8 : w4.cell? ⟨w.heap.size, 8, none⟩ = some .nilFunc := by simp [World.cell?, hw4]
  have fz : ∀ i, w4.frozen? ⟨w.heap.size, i, none⟩ = false := fun i => by simp [World.frozen?, hw4]
  have hB4 : Below w.heap.size w w4 := ((Below.refl _ w).alloc (Nat.le_refl _) _).trans ((hb1.mono (by simp)).trans ((hb2.mono (by omega)).trans ((hb3.mono (by omega)).trans (hb4.mono (by omega)))))
  have q6 := cell_behind hb4 (cell_behind hb3 (cell_behind hb2 h6))
  have q7 := cell_behind hb4 (cell_behind hb3 h7)
  have q8 := cell_behind hb4 h8
  have HB := Lib.hid hB4
  have H6 := Lib.hid q6
  have H7 := Lib.hid q7
  have H8 := Lib.hid q8
  have H9 := Lib.hid h9
  clear hb1 hb2 hb3 hb4 h6 h7 h8 h9 q6 q7 q8 hB4 hw0 hw4
  go_wp2_with fail
  refine bodyPost_ret (v := .agg #[.func (.func 75) #[] #[], .func (.func 76) #[] #[], .func (.func 77) #[] #[], .func (.func 78) #[] #[], .func (.func 79) #[] #[],
      .func (.func 73) #[] #[.pointer (some ⟨b6, 0, none⟩)], .func (.func 73) #[] #[.pointer (some ⟨b7, 0, none⟩)], .func (.func 73) #[] #[.pointer (some ⟨b8, 0, none⟩)], .func (.func 73) #[] #[.pointer (some ⟨b9, 0, none⟩)]])
    (by simp [results, Tryd.results60, go_sem, k0, k1, k2, k3, k4, k5, k6, k7, k8]) rfl ?_
  have hne : ∀ (V : World) (o : Nat) (u : Value) (b : Nat), w.heap.size < b → (V.setCell ⟨w.heap.size, o, none⟩ u).cell? ⟨b, 0, none⟩ = V.cell? ⟨b, 0, none⟩ := fun V o u b hb => World.cell?_of_block (w := V) (Below.heap_setCell V _ _ b (by show b ≠ w.heap.size; omega))
  refine ⟨b6, b7, b8, b9, rfl, ?_, ?_, ?_, ?_, ?_⟩
  · rw [hne _ _ _ _ (by omega), hne _ _ _ _ (by omega), hne _ _ _ _ (by omega), hne _ _ _ _ (by omega), hne _ _ _ _ (by omega), hne _ _ _ _ (by omega), hne _ _ _ _ (by omega), hne _ _ _ _ (by omega), hne _ _ _ _ (by omega)]; exact H6.out
  · rw [hne _ _ _ _ (by omega), hne _ _ _ _ (by omega), hne _ _ _ _ (by omega), hne _ _ _ _ (by omega), hne _ _ _ _ (by omega), hne _ _ _ _ (by omega), hne _ _ _ _ (by omega), hne _ _ _ _ (by omega), hne _ _ _ _ (by omega)]; exact H7.out
  · rw [hne _ _ _ _ (by omega), hne _ _ _ _ (by omega), hne _ _ _ _ (by omega), hne _ _ _ _ (by omega), hne _ _ _ _ (by omega), hne _ _ _ _ (by omega), hne _ _ _ _ (by omega), hne _ _ _ _ (by omega), hne _ _ _ _ (by omega)]; exact H8.out
  · rw [hne _ _ _ _ (by omega), hne _ _ _ _ (by omega), hne _ _ _ _ (by omega), hne _ _ _ _ (by omega), hne _ _ _ _ (by omega), hne _ _ _ _ (by omega), hne _ _ _ _ (by omega), hne _ _ _ _ (by omega), hne _ _ _ _ (by omega)]; exact H9.out
  · exact ((((((((HB.out.setCell (p := ⟨_, _, none⟩) (Nat.le_refl _) _).setCell (p := ⟨_, _, none⟩) (Nat.le_refl _) _).setCell (p := ⟨_, _, none⟩) (Nat.le_refl _) _).setCell (p := ⟨_, _, none⟩) (Nat.le_refl _) _).setCell (p := ⟨_, _, none⟩) (Nat.le_refl _) _).setCell (p := ⟨_, _, none⟩) (Nat.le_refl _) _).setCell (p := ⟨_, _, none⟩) (Nat.le_refl _) _).setCell (p := ⟨_, _, none⟩) (Nat.le_refl _) _).setCell (p := ⟨_, _, none⟩) (Nat.le_refl _) _



theorem doer_at0 (x0 x1 x2 x3 x4 x5 x6 x7 x8 : Value) (w : World) : (Instr.index 126 (.agg #[x0, x1, x2, x3, x4, x5, x6, x7, x8]) (.int .i64 0)).run Tryd.prog w = .ok (.agg #[x0]) w := by kernel_rfl
theorem doer_at1 (x0 x1 x2 x3 x4 x5 x6 x7 x8 : Value) (w : World) : (Instr.index 126 (.agg #[x0, x1, x2, x3, x4, x5, x6, x7, x8]) (.int .i64 1)).run Tryd.prog w = .ok (.agg #[x1]) w := by kernel_rfl
theorem doer_at2 (x0 x1 x2 x3 x4 x5 x6 x7 x8 : Value) (w : World) : (Instr.index 126 (.agg #[x0, x1, x2, x3, x4, x5, x6, x7, x8]) (.int .i64 2)).run Tryd.prog w = .ok (.agg #[x2]) w := by kernel_rfl
theorem doer_at3 (x0 x1 x2 x3 x4 x5 x6 x7 x8 : Value) (w : World) : (Instr.index 126 (.agg #[x0, x1, x2, x3, x4, x5, x6, x7, x8]) (.int .i64 3)).run Tryd.prog w = .ok (.agg #[x3]) w := by kernel_rfl
theorem doer_at4 (x0 x1 x2 x3 x4 x5 x6 x7 x8 : Value) (w : World) : (Instr.index 126 (.agg #[x0, x1, x2, x3, x4, x5, x6, x7, x8]) (.int .i64 4)).run Tryd.prog w = .ok (.agg #[x4]) w := by kernel_rfl
theorem doer_at5 (x0 x1 x2 x3 x4 x5 x6 x7 x8 : Value) (w : World) : (Instr.index 126 (.agg #[x0, x1, x2, x3, x4, x5, x6, x7, x8]) (.int .i64 5)).run Tryd.prog w = .ok (.agg #[x5]) w := by kernel_rfl
theorem doer_at6 (x0 x1 x2 x3 x4 x5 x6 x7 x8 : Value) (w : World) : (Instr.index 126 (.agg #[x0, x1, x2, x3, x4, x5, x6, x7, x8]) (.int .i64 6)).run Tryd.prog w = .ok (.agg #[x6]) w := by kernel_rfl
theorem doer_at7 (x0 x1 x2 x3 x4 x5 x6 x7 x8 : Value) (w : World) : (Instr.index 126 (.agg #[x0, x1, x2, x3, x4, x5, x6, x7, x8]) (.int .i64 7)).run Tryd.prog w = .ok (.agg #[x7]) w := by kernel_rfl
theorem doer_at8 (x0 x1 x2 x3 x4 x5 x6 x7 x8 : Value) (w : World) : (Instr.index 126 (.agg #[x0, x1, x2, x3, x4, x5, x6, x7, x8]) (.int .i64 8)).run Tryd.prog w = .ok (.agg #[x8]) w := by kernel_rfl
theorem doer_do (fn : Fn) (fi ca : Array Value) (w : World) : (Instr.field 125 (.agg #[.func fn fi ca]) 0).run Tryd.prog w = .ok (.func fn fi ca) w := by kernel_rfl
attribute [go_sem ↓] doer_do doer_at0 doer_at1 doer_at2 doer_at3 doer_at4 doer_at5 doer_at6 doer_at7 doer_at8

def DoPost (p a b : Int) (w : World) (e : Ending) (w' : World) : Prop := (∃ n, doP p a b = some n ∧ e = .returned (.tuple #[.int .i64 n, .int .i64 0]) ∧ Below w.heap.size w w') ∨ (doP p a b = none ∧ e = .returned (.tuple #[.int .i64 0, .int .i64 2]) ∧ Below w.heap.size w w')
theorem wrap31_wrap64 (n : Int) : wrap31 (wrap64 n) = wrap31 n := by unfold wrap31 wrap64; omega
theorem tup_int {a b c d : Int} (h1 : a = b) (h2 : c = d) : Ending.returned (.tuple #[.int .i64 a, .int .i64 c]) = .returned (.tuple #[.int .i64 b, .int .i64 d]) := by rw [h1, h2]
theorem doP_1 (a b : Int) : doP 1 a b = some (wrap31 (wrap31 a + wrap31 b)) := by simp [doP]
theorem doP_2 (a b : Int) : doP 2 a b = some (wrap31 (wrap31 a - wrap31 b)) := by simp [doP]
theorem doP_3 (a b : Int) : doP 3 a b = some (wrap31 (wrap31 a * wrap31 b)) := by simp [doP]
theorem doP_4 (a b : Int) (h : wrap31 b ≠ 0) : doP 4 a b = some (wrap31 ((wrap31 a).tdiv (wrap31 b))) := by simp [doP, h]
theorem doP_5 (a b : Int) (h : wrap31 b ≠ 0) : doP 5 a b = some (wrap31 ((wrap31 a).tmod (wrap31 b))) := by simp [doP, h]
theorem doP_6 (a b : Int) : doP 6 a b = some (wrap31 (if wrap31 a = wrap31 b then 1 else 0)) := by simp [doP]
theorem doP_7 (a b : Int) : doP 7 a b = some (wrap31 (if wrap31 a ≠ wrap31 b then 1 else 0)) := by simp [doP]
theorem doP_8 (a b : Int) : doP 8 a b = some (wrap31 (if wrap31 a < wrap31 b then 1 else 0)) := by simp [doP]
theorem doP_9 (a b : Int) : doP 9 a b = some (wrap31 (if wrap31 a ≤ wrap31 b then 1 else 0)) := by simp [doP]
set_option maxRecDepth 100000 in
set_option maxHeartbeats 1000000 in
theorem do_small (p a b : Int) (hp : p = 1 ∨ p = 2 ∨ p = 3) (w : World) : Calls Tryd.prog 55 #[.int .i64 p, .int .i64 a, .int .i64 b] w (DoPost p a b w) := by
  rcases hp with rfl | rfl | rfl
  all_goals
    go_enter Tryd.func55, Tryd.ntmps55
    go_wp2_with (first | (go_at_call 35; refine (wrap_any _ _).mono ?_; rintro e w' ⟨rfl, rfl⟩) | (go_at_call 60; refine (doers_any _).mono ?_; rintro e w1 ⟨b6, b7, b8, b9, rfl, h6, h7, h8, h9, hb1⟩) | (go_at_call 75; go_in) | (go_at_call 76; go_in) | (go_at_call 77; go_in))
    go_ret2
    first | exact .inl ⟨_, doP_1 a b, tup_int (by rw [wrap31_wrap64]) rfl, hb1⟩ | exact .inl ⟨_, doP_2 a b, tup_int (by rw [wrap31_wrap64]) rfl, hb1⟩ | exact .inl ⟨_, doP_3 a b, tup_int (by rw [wrap31_wrap64]) rfl, hb1⟩
set_option maxRecDepth 100000 in
set_option maxHeartbeats 1000000 in
theorem do_div (p a b : Int) (hp : p = 4 ∨ p = 5) (w : World) : Calls Tryd.prog 55 #[.int .i64 p, .int .i64 a, .int .i64 b] w (DoPost p a b w) := by
  by_cases hb : wrap31 b = 0
  · have hd : doP p a b = none := by simp [doP, hb, hp]
    have hb' : (wrap31 b == 0) = true := by simpa using hb
    have HD := Lib.hid hd
    clear hd
    rcases hp with rfl | rfl
    all_goals
      go_enter Tryd.func55, Tryd.ntmps55
      go_wp2_with (first | (go_at_call 35; refine (wrap_any _ _).mono ?_; rintro e w' ⟨rfl, rfl⟩) | (go_at_call 60; refine (doers_any _).mono ?_; rintro e w1 ⟨b6, b7, b8, b9, rfl, h6, h7, h8, h9, hb1⟩) )
      go_ret2
      exact .inr ⟨HD.out, rfl, Below.refl _ _⟩
  · have hb' : (wrap31 b == 0) = false := by simpa using hb
    rcases hp with rfl | rfl
    all_goals
      go_enter Tryd.func55, Tryd.ntmps55
      go_wp2_with (first | (go_at_call 35; refine (wrap_any _ _).mono ?_; rintro e w' ⟨rfl, rfl⟩) | (go_at_call 60; refine (doers_any _).mono ?_; rintro e w1 ⟨b6, b7, b8, b9, rfl, h6, h7, h8, h9, hb1⟩) | (go_at_call 78; go_in) | (go_at_call 79; go_in))
      go_ret2
      first | exact .inl ⟨_, doP_4 a b hb, tup_int (by first | rw [wrap31_wrap64] | rfl) rfl, hb1⟩ | exact .inl ⟨_, doP_5 a b hb, tup_int (by first | rw [wrap31_wrap64] | rfl) rfl, hb1⟩
set_option maxRecDepth 100000 in
set_option maxHeartbeats 2000000 in
theorem do_cmp (p a b : Int) (hp : p = 6 ∨ p = 7 ∨ p = 8 ∨ p = 9) (w : World) : Calls Tryd.prog 55 #[.int .i64 p, .int .i64 a, .int .i64 b] w (DoPost p a b w) := by
  rcases hp with rfl | rfl | rfl | rfl
  all_goals
    go_enter Tryd.func55, Tryd.ntmps55
    go_wp2_with (first | (go_at_call 35; refine (wrap_any _ _).mono ?_; rintro e w' ⟨rfl, rfl⟩) | (go_at_call 60; refine (doers_any _).mono ?_; rintro e w1 ⟨b6, b7, b8, b9, rfl, h6, h7, h8, h9, hb1⟩) | (go_at_call 73; go_in) | (go_at_call 74; go_in) | (go_at_call 80; go_in) | (go_at_call 81; go_in) | (go_at_call 82; go_in) | (go_at_call 83; go_in))
    all_goals
      go_ret2
      first
        | exact .inl ⟨_, doP_6 a b, tup_int (by simp_all) rfl, hb1⟩
        | exact .inl ⟨_, doP_7 a b, tup_int (by simp_all) rfl, hb1⟩
        | exact .inl ⟨_, doP_8 a b, tup_int (by first | rw [if_pos (by omega)] | rw [if_neg (by omega)]) rfl, hb1⟩
        | exact .inl ⟨_, doP_9 a b, tup_int (by first | rw [if_pos (by omega)] | rw [if_neg (by omega)]) rfl, hb1⟩

theorem do_any (p a b : Int) (h1 : 1 ≤ p) (h2 : p ≤ 9) (w : World) : Calls Tryd.prog 55 #[.int .i64 p, .int .i64 a, .int .i64 b] w (DoPost p a b w) := by
  by_cases h3 : p = 1 ∨ p = 2 ∨ p = 3
  · exact do_small p a b h3 w
  by_cases h4 : p = 4 ∨ p = 5
  · exact do_div p a b h4 w
  exact do_cmp p a b (by omega) w

end Go.Proofs.YtllakbiipdcboaaDoor

/-
  The small functions of the flat evaluator: stuck, key, number.
-/
set_option linter.unusedVariables false
set_option linter.unusedSimpArgs false
namespace Go.Proofs.YtllakbiipdcboaaDoor
open Go.RowKit

/-- what is thrown where a run stops; where something is raised -/
def stopV (k : Int) : List PanicEntry := [{ v := .iface 68 (.agg #[.int .i64 k]), recovered := false }]
def raisedV (g : Value) : List PanicEntry := [{ v := .iface 70 (.agg #[g]), recovered := false }]

/-! ### type assertions -/
theorem ta_i_i (x : Value) (w : World) : (Instr.typeAssert (.iface 88 x) 58 88 true).run Tryd.prog w = .ok (.tuple #[x, .bool true]) w := by kernel_rfl
theorem ta_b_i (x : Value) (w : World) : (Instr.typeAssert (.iface 89 x) 58 88 true).run Tryd.prog w = .ok (.tuple #[.int .i64 0, .bool false]) w := by kernel_rfl
theorem ta_f_i (x : Value) (w : World) : (Instr.typeAssert (.iface 94 x) 58 88 true).run Tryd.prog w = .ok (.tuple #[.int .i64 0, .bool false]) w := by kernel_rfl
theorem ta_c_i (x : Value) (w : World) : (Instr.typeAssert (.iface 112 x) 58 88 true).run Tryd.prog w = .ok (.tuple #[.int .i64 0, .bool false]) w := by kernel_rfl
theorem ta_i_b (x : Value) (w : World) : (Instr.typeAssert (.iface 88 x) 58 89 true).run Tryd.prog w = .ok (.tuple #[.pointer none, .bool false]) w := by kernel_rfl
theorem ta_b_b (x : Value) (w : World) : (Instr.typeAssert (.iface 89 x) 58 89 true).run Tryd.prog w = .ok (.tuple #[x, .bool true]) w := by kernel_rfl
theorem ta_f_b (x : Value) (w : World) : (Instr.typeAssert (.iface 94 x) 58 89 true).run Tryd.prog w = .ok (.tuple #[.pointer none, .bool false]) w := by kernel_rfl
theorem ta_c_b (x : Value) (w : World) : (Instr.typeAssert (.iface 112 x) 58 89 true).run Tryd.prog w = .ok (.tuple #[.pointer none, .bool false]) w := by kernel_rfl
theorem ta_i_f (x : Value) (w : World) : (Instr.typeAssert (.iface 88 x) 58 94 true).run Tryd.prog w = .ok (.tuple #[.pointer none, .bool false]) w := by kernel_rfl
theorem ta_b_f (x : Value) (w : World) : (Instr.typeAssert (.iface 89 x) 58 94 true).run Tryd.prog w = .ok (.tuple #[.pointer none, .bool false]) w := by kernel_rfl
theorem ta_f_f (x : Value) (w : World) : (Instr.typeAssert (.iface 94 x) 58 94 true).run Tryd.prog w = .ok (.tuple #[x, .bool true]) w := by kernel_rfl
theorem ta_c_f (x : Value) (w : World) : (Instr.typeAssert (.iface 112 x) 58 94 true).run Tryd.prog w = .ok (.tuple #[.pointer none, .bool false]) w := by kernel_rfl
theorem ta_i_c (x : Value) (w : World) : (Instr.typeAssert (.iface 88 x) 58 112 true).run Tryd.prog w = .ok (.tuple #[.pointer none, .bool false]) w := by kernel_rfl
theorem ta_b_c (x : Value) (w : World) : (Instr.typeAssert (.iface 89 x) 58 112 true).run Tryd.prog w = .ok (.tuple #[.pointer none, .bool false]) w := by kernel_rfl
theorem ta_f_c (x : Value) (w : World) : (Instr.typeAssert (.iface 94 x) 58 112 true).run Tryd.prog w = .ok (.tuple #[.pointer none, .bool false]) w := by kernel_rfl
theorem ta_c_c (x : Value) (w : World) : (Instr.typeAssert (.iface 112 x) 58 112 true).run Tryd.prog w = .ok (.tuple #[x, .bool true]) w := by kernel_rfl
theorem ta_s_s (x : Value) (w : World) : (Instr.typeAssert (.iface 68 x) 20 68 true).run Tryd.prog w = .ok (.tuple #[x, .bool true]) w := by kernel_rfl
theorem ta_s_r (x : Value) (w : World) : (Instr.typeAssert (.iface 68 x) 20 70 true).run Tryd.prog w = .ok (.tuple #[.agg #[.nilIface], .bool false]) w := by kernel_rfl
theorem ta_r_r (x : Value) (w : World) : (Instr.typeAssert (.iface 70 x) 20 70 true).run Tryd.prog w = .ok (.tuple #[x, .bool true]) w := by kernel_rfl
theorem ta_r_s (x : Value) (w : World) : (Instr.typeAssert (.iface 70 x) 20 68 true).run Tryd.prog w = .ok (.tuple #[.agg #[.int .i64 0], .bool false]) w := by kernel_rfl
attribute [go_sem ↓] ta_i_i ta_b_i ta_f_i ta_c_i ta_i_b ta_b_b ta_f_b ta_c_b ta_i_f ta_b_f ta_f_f ta_c_f ta_i_c ta_b_c ta_f_c ta_c_c ta_s_s ta_s_r ta_r_r ta_r_s

theorem stuck_any (w : World) : Calls Tryd.prog 41 #[] w fun e w' => e = .panicked (stopV 4) ∧ w = w' := by
  go_enter Tryd.func41, Tryd.ntmps41
  go_wp2
  exact ⟨rfl, rfl, rfl⟩

theorem key_int (n : Int) (w : World) : Calls Tryd.prog 25 #[.iface 88 (.int .i64 n)] w fun e w' => e = .returned (.int .i64 n) ∧ w = w' := by
  go_enter Tryd.func25, Tryd.ntmps25
  go_wp2_with fail
  go_ret
  exact ⟨rfl, rfl⟩
theorem key_blk (b : Nat) (n : Int) (w : World) (hc : w.cell? ⟨b, 0, none⟩ = some (.int .i64 n)) : Calls Tryd.prog 25 #[.iface 89 (.pointer (some ⟨b, 0, none⟩))] w fun e w' => e = .returned (.int .i64 n) ∧ w = w' := by
  go_enter Tryd.func25, Tryd.ntmps25
  go_wp2_with fail
  go_ret
  exact ⟨rfl, rfl⟩
theorem key_fn (a : Value) (w : World) : Calls Tryd.prog 25 #[.iface 94 a] w fun e w' => e = .panicked (stopV 4) ∧ w = w' := by
  go_enter Tryd.func25, Tryd.ntmps25
  go_wp2_with (go_at_call 41; refine (stuck_any _).mono ?_; rintro e w' ⟨rfl, rfl⟩)
  exact ⟨rfl, rfl, rfl⟩
theorem key_ref (a : Value) (w : World) : Calls Tryd.prog 25 #[.iface 112 a] w fun e w' => e = .panicked (stopV 4) ∧ w = w' := by
  go_enter Tryd.func25, Tryd.ntmps25
  go_wp2_with (go_at_call 41; refine (stuck_any _).mono ?_; rintro e w' ⟨rfl, rfl⟩)
  exact ⟨rfl, rfl, rfl⟩
/-- how a question of a value for a number ends -/
def AskedPost (o : Option Int) (w : World) (e : Ending) (w' : World) : Prop := (∃ n, o = some n ∧ e = .returned (.int .i64 n) ∧ w = w') ∨ (o = none ∧ e = .panicked (stopV 4) ∧ w = w')
theorem key_any {rb : Nat} {m : Mem} {W : World} {v : PV} {g : Value} (h : RepV rb m W v g) : Calls Tryd.prog 25 #[g] W (AskedPost (keyOf v) W) := by
  cases h with
  | int n => exact (key_int n W).mono fun e w' ⟨h1, h2⟩ => .inl ⟨n, rfl, h1, h2⟩
  | @blk tag kids b g cap F hb hg hgm hl h0 h8 hc hk => exact (key_blk b tag W (at_cell0 hb rfl)).mono fun e w' ⟨h1, h2⟩ => .inl ⟨tag, rfl, h1, h2⟩
  | fn h => exact (key_fn _ W).mono fun e w' ⟨h1, h2⟩ => .inr ⟨rfl, h1, h2⟩
  | ref h => exact (key_ref _ W).mono fun e w' ⟨h1, h2⟩ => .inr ⟨rfl, h1, h2⟩

theorem number_int (n : Int) (w : World) : Calls Tryd.prog 53 #[.iface 88 (.int .i64 n)] w fun e w' => e = .returned (.int .i64 n) ∧ w = w' := by
  go_enter Tryd.func53, Tryd.ntmps53
  go_wp2_with fail
  go_ret
  exact ⟨rfl, rfl⟩
theorem number_other (T : TypeId) (hT : T = 89 ∨ T = 94 ∨ T = 112) (a : Value) (w : World) : Calls Tryd.prog 53 #[.iface T a] w fun e w' => e = .panicked (stopV 4) ∧ w = w' := by
  rcases hT with rfl | rfl | rfl
  all_goals
    go_enter Tryd.func53, Tryd.ntmps53
    go_wp2_with (go_at_call 41; refine (stuck_any _).mono ?_; rintro e w' ⟨rfl, rfl⟩)
    exact ⟨rfl, rfl, rfl⟩
theorem cnumber_any {rb : Nat} {m : Mem} {W : World} {v : PV} {g : Value} (h : RepV rb m W v g) : Calls Tryd.prog 53 #[g] W (AskedPost (numOf v) W) := by
  cases h with
  | int n => exact (number_int n W).mono fun e w' ⟨h1, h2⟩ => .inl ⟨n, rfl, h1, h2⟩
  | blk hb hg hgm hl h0 h8 hc hk => exact (number_other _ (.inl rfl) _ W).mono fun e w' ⟨h1, h2⟩ => .inr ⟨rfl, h1, h2⟩
  | fn h => exact (number_other _ (.inr (.inl rfl)) _ W).mono fun e w' ⟨h1, h2⟩ => .inr ⟨rfl, h1, h2⟩
  | ref h => exact (number_other _ (.inr (.inr rfl)) _ W).mono fun e w' ⟨h1, h2⟩ => .inr ⟨rfl, h1, h2⟩

end Go.Proofs.YtllakbiipdcboaaDoor

/-
  The evaluator of terms: what an atom is.
-/
set_option linter.unusedVariables false
set_option linter.unusedSimpArgs false
namespace Go.Proofs.YtllakbiipdcboaaDoor
open Go.RowKit

theorem lookup_cons (x y : Int) (v : PV) (e : PEnv) : lookup ((y, v) :: e) x = if y = x then some v else lookup e x := by
  unfold lookup
  by_cases h : y = x
  · simp [h]
  · have : (y == x) = false := by simpa using h
    simp [List.find?_cons, this, h]
/-- what is asked of the world W in which it is known, at the world V of the call -/
def AtomPost (rb : Nat) (m : Mem) (W V : World) (o : Option PV) (e : Ending) (w' : World) : Prop := (∃ v T x, o = some v ∧ e = .returned (.iface T x) ∧ RepV rb m W v (.iface T x) ∧ Below V.heap.size V w') ∨ (o = none ∧ e = .panicked (stopV 4) ∧ Below V.heap.size V w')
theorem atom_int {rb : Nat} {m : Mem} {W V : World} (kb : Nat) (n : Int) : Calls Tryd.prog 44 #[.agg #[.bool false, .int .i64 n], .pointer (some ⟨kb, 0, none⟩)] V (AtomPost rb m W V (some (.int n))) := by
  obtain ⟨W0, hW0⟩ : ∃ W0, V.alloc (.cells #[.bool false, .int .i64 n] 24) = W0 := ⟨_, rfl⟩
  have hb0 : Below V.heap.size V W0 := by rw [← hW0]; exact (Below.refl _ _).alloc (Nat.le_refl _) _
  have e0 : W0.cell? ⟨V.heap.size, 0, none⟩ = some (.bool false) := by rw [← hW0, World.cell?_alloc_at _ _ _ _ rfl]; rfl
  have e1 : W0.cell? ⟨V.heap.size, 1, none⟩ = some (.int .i64 n) := by rw [← hW0, World.cell?_alloc_at _ _ _ _ rfl]; rfl
  have HB := Lib.hid hb0
  clear hb0
  go_enter Tryd.func44, Tryd.ntmps44
  go_wp2_with fail
  go_ret
  exact .inl ⟨.int n, _, _, rfl, rfl, .int n, HB.out⟩
set_option maxHeartbeats 1000000 in
theorem atom_var {rb : Nat} {m : Mem} {W V : World} (hWV : Below W.heap.size W V) {env : PEnv} {g : Value} (h : EnvIn rb m W env g) {kb : Nat} (hkb : V.cell? ⟨kb, 0, none⟩ = some g) (x : Int) : Calls Tryd.prog 44 #[.agg #[.bool true, .int .i64 x], .pointer (some ⟨kb, 0, none⟩)] V (AtomPost rb m W V (lookup env x)) := by
  obtain ⟨W0, hW0⟩ : ∃ W0, V.alloc (.cells #[.bool true, .int .i64 x] 24) = W0 := ⟨_, rfl⟩
  have hb0 : Below V.heap.size V W0 := by rw [← hW0]; exact (Below.refl _ _).alloc (Nat.le_refl _) _
  have hs0 : V.heap.size < W0.heap.size := by rw [← hW0]; simp
  have e0 : W0.cell? ⟨V.heap.size, 0, none⟩ = some (.bool true) := by rw [← hW0, World.cell?_alloc_at _ _ _ _ rfl]; rfl
  have e1 : W0.cell? ⟨V.heap.size, 1, none⟩ = some (.int .i64 x) := by rw [← hW0, World.cell?_alloc_at _ _ _ _ rfl]; rfl
  have ek : W0.cell? ⟨kb, 0, none⟩ = some g := (hb0.cell (p := ⟨kb, 0, none⟩) (World.block_lt_of_cell? _ _ hkb)).trans hkb
  obtain ⟨pg, rfl⟩ := h.shape
  have HB0 := Lib.hid hb0
  have HS0 := Lib.hid hs0
  have HWV := Lib.hid hWV
  have HEN := Lib.hid h
  clear hb0 hs0 h hWV hkb
  go_enter Tryd.func44, Tryd.ntmps44
  go_wp2_with fail
  go_loopg [4] env.length (fun k p wr => Hid (Below W0.heap.size W0 wr) ∧ ∃ e' : PEnv, Hid (EnvIn rb m W e' p) ∧ Hid (e'.length = k) ∧ Hid (lookup env x = lookup e' x))
  case atStart => exact ⟨Lib.hid (Below.refl _ _), env, HEN, Lib.hid rfl, Lib.hid rfl⟩
  case round =>
    obtain ⟨HW, e', HE, HK, HL⟩ := hrel
    have q1 : wr.cell? ⟨V.heap.size, 1, none⟩ = some (.int .i64 x) := (HW.out.cell (p := ⟨V.heap.size, 1, none⟩) HS0.out).trans e1
    have hWr : Below V.heap.size V wr := HB0.out.trans (HW.out.mono (Nat.le_of_lt HS0.out))
    have HWR := Lib.hid hWr
    clear hWr
    have he := HE.out
    cases he with
    | nil =>
      clear HE
      go_wp2_with (go_at_call 41; refine (stuck_any _).mono ?_; rintro e w' ⟨rfl, rfl⟩)
      exact ⟨rfl, .inr ⟨HL.out, rfl, HWR.out⟩⟩
    | @cons y v e gv nx b hb hv he =>
      clear HE
      have hev : Evo rb m m W wr := Evo.below (HWV.out.trans (HWR.out.mono HWV.out.size))
      have c0 := at_cell0 (hb.evo hev) (i := 0) rfl
      have c1 := at_cell0 (hb.evo hev) (i := 1) rfl
      have c2 := at_cell0 (hb.evo hev) (i := 2) rfl
      obtain ⟨T, gx, rfl⟩ := hv.shape
      obtain ⟨pn, rfl⟩ := he.shape
      have HV := Lib.hid hv
      have HE := Lib.hid he
      simp only [List.getElem_toArray, List.getElem_cons_zero, List.getElem_cons_succ] at c0 c1 c2
      clear hev hb hv he
      by_cases hx : y = x
      · have hx' : (y == x) = true := by simpa using hx
        have hl2 := Lib.hid (HL.out.trans ((lookup_cons x y v e).trans (if_pos hx)))
        have HX := Lib.hid hx
        clear hx
        go_wp2_with fail
        go_quiet (fail)
        go_wp2_with fail
        go_ret
        exact .inl ⟨v, _, _, hl2.out, rfl, HV.out, below_drewN HWR.out _⟩
      · have hx' : (y == x) = false := by simpa using hx
        have hl2 := Lib.hid (HL.out.trans ((lookup_cons x y v e).trans (if_neg hx)))
        go_wp2_with fail
        go_quiet (fail)
        go_wp2_with fail
        go_roundg e.length
        case measure => have := HK.out; simp at this; omega
        case rel => exact ⟨Lib.hid (below_drewN HW.out _), e, HE, Lib.hid rfl, hl2⟩
theorem atom_any {rb : Nat} {m : Mem} {W V : World} (hWV : Below W.heap.size W V) {env : PEnv} {g : Value} (h : EnvIn rb m W env g) {kb : Nat} (hkb : V.cell? ⟨kb, 0, none⟩ = some g) (a : Atm) : Calls Tryd.prog 44 #[.agg #[.bool a.v, .int .i64 a.n], .pointer (some ⟨kb, 0, none⟩)] V (AtomPost rb m W V (atomP env a)) := by
  obtain ⟨v, n⟩ := a
  cases v
  · exact atom_int kb n
  · exact atom_var hWV h hkb n
/-- 'atoms(known)' -/
theorem atoms_any (g : Option Addr) (w : World) : Calls Tryd.prog 29 #[.pointer g] w fun e w' => e = .returned (.func (.func 44) #[] #[.pointer (some ⟨w.heap.size, 0, none⟩)]) ∧ w' = w.alloc (.cells #[.pointer g] 72) := by
  go_enter Tryd.func29, Tryd.ntmps29
  go_wp2_with fail
  go_ret
  exact ⟨rfl, rfl⟩
end Go.Proofs.YtllakbiipdcboaaDoor

/-
  The evaluator of terms: what atoms are, from the left.
-/
set_option linter.unusedVariables false
set_option linter.unusedSimpArgs false
namespace Go.Proofs.YtllakbiipdcboaaDoor
open Go.RowKit

theorem infoVal : (Tryd.prog.info? 58).map (fun i => (i.zero, i.size, i.bytes)) = some (some .nilIface, 1, 16) := by kernel_rfl
theorem undVals : Tryd.prog.underlying 90 = some (.slice 58) := by kernel_rfl
/-- values in a new row -/
def RowZ (rb : Nat) (m : Mem) (W : World) (l : List PV) (A : Option Addr) : Prop :=
  0 < l.length → ∃ (g : Nat) (F : Nat → Value), A = some ⟨g, 0, none⟩ ∧ g < W.heap.size ∧ ¬ m.mut rb g ∧ (∀ j, j < l.length → W.cell? ⟨g, j, none⟩ = some (F j)) ∧ ∀ j (h : j < l.length), RepV rb m W l[j] (F j)
theorem atomsP_take {e : PEnv} : ∀ (l : List Atm) (j : Nat) (h : j < l.length) (acc : List PV), atomsP e (l.take j) = some acc → (∀ v, atomP e l[j] = some v → atomsP e (l.take (j + 1)) = some (acc ++ [v])) ∧ (atomP e l[j] = none → atomsP e l = none)
  | a :: l, 0, h, acc, h1 => by
    simp only [List.take_zero, atomsP, Option.some.injEq] at h1
    subst h1
    refine ⟨fun v hv => ?_, fun hv => ?_⟩
    · simp only [List.getElem_cons_zero] at hv
      simp [atomsP, hv]
    · simp only [List.getElem_cons_zero] at hv
      simp [atomsP, hv]
  | a :: l, j + 1, h, acc, h1 => by
    simp only [List.take_succ_cons, atomsP] at h1
    cases ha : atomP e a with
    | none => rw [ha] at h1; cases h1
    | some v0 =>
      rw [ha] at h1
      simp only [Option.map_eq_some_iff] at h1
      obtain ⟨acc', h2, rfl⟩ := h1
      obtain ⟨q1, q2⟩ := atomsP_take l j (by simpa using h) acc' h2
      refine ⟨fun v hv => ?_, fun hv => ?_⟩
      · simp only [List.getElem_cons_succ] at hv
        simp only [List.take_succ_cons, atomsP, ha, q1 v hv]
        rfl
      · simp only [List.getElem_cons_succ] at hv
        simp only [atomsP, ha, q2 hv]
        rfl
/-- a row that is being filled -/
structure FillIn (rb : Nat) (m : Mem) (W : World) (acc : List PV) (wr : World) (rv : Value) (Fs : List Value) : Prop where
  below : Below W.heap.size W wr
  row : wr.ownsRow W.heap.size 58 1 rv acc.length Fs
  rep : ∀ i (h : i < acc.length), ∃ F, Fs[i]? = some F ∧ RepV rb m W acc[i] F
theorem FillIn.start (rb : Nat) (m : Mem) (W : World) : FillIn rb m W [] W (.slice none 0 0) [] := ⟨Below.refl _ _, ⟨by simp, .inl ⟨rfl, rfl⟩⟩, by intro i h; simp at h⟩
theorem FillIn.behind {rb : Nat} {m : Mem} {W : World} {acc : List PV} {wr : World} {rv : Value} {Fs : List Value} (h : FillIn rb m W acc wr rv Fs) {V : World} (hV : Below wr.heap.size wr V) : FillIn rb m W acc V rv Fs :=
  ⟨h.below.trans (hV.mono h.below.size), h.row.kept ⟨hV.os, hV.tape, hV.output, hV.size, fun i hi _ => hV.block i hi⟩ (row := none) (by cases rv.ownBlock <;> simp), h.rep⟩
theorem FillIn.more {rb : Nat} {m : Mem} {W : World} {acc : List PV} {wr : World} {rv : Value} {Fs : List Value} (h : FillIn rb m W acc wr rv Fs) {v : PV} {F : Value} (hv : RepV rb m W v F) {w1 : World} {rv' : Value}
    (hown : w1.ownsRow W.heap.size 58 1 rv' (acc.length + 1) (Fs ++ [F])) (hgrow : (wr.alloc (.cells #[F] 58)).grownBy w1 rv.ownBlock) : FillIn rb m W (acc ++ [v]) w1 rv' (Fs ++ [F]) := by
  have hs := h.below.size
  have hb1 : Below W.heap.size W (wr.alloc (.cells #[F] 58)) := h.below.alloc hs _
  refine ⟨hb1.grown hgrow hb1.size (fun j hj => (h.row.lt j hj).1), by simpa using hown, fun i hi => ?_⟩
  have hl : Fs.length = acc.length := by simpa using h.row.1
  by_cases hi' : i < acc.length
  · obtain ⟨F', h1, h2⟩ := h.rep i hi'
    exact ⟨F', by rw [List.getElem?_append_left (by omega)]; exact h1, by rw [List.getElem_append_left hi']; exact h2⟩
  · have : i = acc.length := by simp at hi; omega
    subst this
    exact ⟨F, by rw [List.getElem?_append_right (by omega)]; simp [hl], by simpa using hv⟩
theorem FillIn.whole {rb : Nat} {m : Mem} {W : World} (hm : ∀ k, m.mut rb k → k < W.heap.size) {acc : List PV} {wr : World} {rv : Value} {Fs : List Value} (h : FillIn rb m W acc wr rv Fs) : ∃ A cap, rv = .slice A acc.length cap ∧ acc.length ≤ cap ∧ RowZ rb m wr acc A := by
  rcases h.row.2 with ⟨rfl, h0⟩ | ⟨g, cap, cur, rfl, hlo, hgg, hn, _, _, _⟩
  · exact ⟨none, 0, by rw [h0], by omega, fun h => by omega⟩
  · refine ⟨some ⟨g, 0, none⟩, cap, rfl, hn, fun h0 => ⟨g, fun i => Fs[i]?.getD .nilIface, rfl, (h.row.lt g rfl).2, fun hk => by have := hm g hk; omega, fun i hi => ?_, fun i hi => ?_⟩⟩
    · obtain ⟨F, h1, h2⟩ := h.rep i hi
      have := World.ownsRow.cells h.row (g := g) rfl i F h1
      have ha : (⟨g, 0, none⟩ : Addr).add i = ⟨g, i, none⟩ := by unfold Addr.add; split <;> simp_all
      rw [ha] at this
      simpa [h1] using this
    · obtain ⟨F, h1, h2⟩ := h.rep i hi
      simpa [h1] using h2.evo (Evo.below h.below)

end Go.Proofs.YtllakbiipdcboaaDoor

/-
  The flat evaluator: how the run's state is turned: a cell more, a cell set, an int printed, an int read, a closure made.
-/
set_option linter.unusedVariables false
set_option linter.unusedSimpArgs false
namespace Go.Proofs.YtllakbiipdcboaaDoor
open Go.RowKit

section
variable {rb B : Nat} {p : FlatP} {inp : List Int} {fuel : Nat} {s : FSt} {m m' : Mem} {W W' : World}
theorem heap_set_self {b : Nat} {cs : Array Value} {T : TypeId} {fr : Nat × Nat} (h : W.heap[b]? = some (.cells cs T fr)) (o : Nat) (v : Value) : (W.setCell ⟨b, o, none⟩ v).heap[b]? = some (.cells (cs.setIfInBounds o v) T fr) := by
  simp [World.setCell, Array.getElem?_modify, h]
theorem heap_set_ne {b k : Nat} (h : k ≠ b) (o : Nat) (v : Value) : (W.setCell ⟨b, o, none⟩ v).heap[k]? = W.heap[k]? := Below.heap_setCell W _ _ k h

/-- a cell more -/
theorem Good.addCell (hg : Good rb B p inp fuel s m W) {a : PV} {ga : Value} (ha : RepV rb m W a ga) :
    Good rb B p inp fuel { s with cells := s.cells ++ [a] } { m with ca := m.ca ++ [W.heap.size] } (W.alloc (.cells #[ga] 113)) ∧ Evo rb m { m with ca := m.ca ++ [W.heap.size] } W (W.alloc (.cells #[ga] 113)) ∧
      RepV rb { m with ca := m.ca ++ [W.heap.size] } (W.alloc (.cells #[ga] 113)) (.ref s.cells.length) (.iface 112 (.pointer (some ⟨W.heap.size, 0, none⟩))) := by
  have hk : Evo rb m { m with ca := m.ca ++ [W.heap.size] } W (W.alloc (.cells #[ga] 113)) :=
    (Evo.alloc rb m W _).more (List.prefix_refl _) (List.prefix_append _ _) (fun k h => by
      rcases h with rfl | h | h
      · exact .inl (.inl rfl)
      · exact .inl (.inr (.inl h))
      · rcases List.mem_append.1 h with h | h
        · exact .inl (.inr (.inr h))
        · simp at h; exact .inr (by omega))
  have hgb := hg.below ((Below.refl W.heap.size W).alloc (Nat.le_refl _) (.cells #[ga] 113))
  have hrbl := hg.mutLt (k := rb) (.inl rfl)
  refine ⟨⟨hgb.Bs, hg.rbB, hg.left, hg.fuelB, hg.bnd, hgb.run, hgb.out, hg.falen, hg.fnsEvo hk, ?_, ?_, ?_, ?_, hg.rbo, ?_, ?_⟩, hk, .ref ?_⟩
  · simp [hg.calen]
  · intro i hi
    by_cases h : i < s.cells.length
    · obtain ⟨b, gv, h1, h2, h3⟩ := hg.cells i h
      refine ⟨b, gv, prefix_get hk.ca h1, ?_, ?_⟩
      · exact (((Below.refl W.heap.size W).alloc (Nat.le_refl _) (.cells #[ga] 113)).block b (Array.getElem?_eq_some_iff.1 h2).1).trans h2
      · simpa [List.getElem_append_left h] using h3.evo hk
    · have : i = s.cells.length := by simp at hi; omega
      subst this
      refine ⟨W.heap.size, ga, ?_, World.alloc_heap_new W _, ?_⟩
      · show (m.ca ++ [W.heap.size])[s.cells.length]? = _
        rw [← hg.calen, List.getElem?_append_right (Nat.le_refl _)]; simp
      · simpa using ha.evo hk
  · show (m.ca ++ [W.heap.size]).Nodup
    rw [List.nodup_append]
    exact ⟨hg.nodup, by simp, fun x hx y hy => by have := hg.mutLt (k := x) (.inr (.inr hx)); simp at hy; omega⟩
  · intro h
    rcases List.mem_append.1 h with h | h
    · exact hg.rbca h
    · simp at h; omega
  · intro b h
    rcases List.mem_append.1 h with h | h
    · exact hg.oca b h
    · simp at h; subst h
      intro ho
      exact absurd (hg.out.lt _ ho).2 (Nat.lt_irrefl _)
  · intro b h
    rcases List.mem_append.1 h with h | h
    · exact hg.caB b h
    · simp at h; subst h; exact hg.Bs
  · show (m.ca ++ [W.heap.size])[s.cells.length]? = _
    rw [← hg.calen, List.getElem?_append_right (Nat.le_refl _)]; simp

/-- a cell is set -/
theorem Good.setRef (hg : Good rb B p inp fuel s m W) {i b : Nat} (hb : m.ca[i]? = some b) {a : PV} {ga : Value} (ha : RepV rb m W a ga) :
    Good rb B p inp fuel { s with cells := s.cells.set i a } m (W.setCell ⟨b, 0, none⟩ ga) ∧ Evo rb m m W (W.setCell ⟨b, 0, none⟩ ga) := by
  have hbm : b ∈ m.ca := List.mem_of_getElem? hb
  have hk : Evo rb m m W (W.setCell ⟨b, 0, none⟩ ga) := Evo.setCell W 0 ga (.inr (.inr hbm))
  have hst := hg.stay hk
  have hne : ∀ k, k ≠ b → (W.setCell ⟨b, 0, none⟩ ga).heap[k]? = W.heap[k]? := fun k h => Below.heap_setCell W _ _ k h
  obtain ⟨Ai, ci, hr, hi, hci⟩ := hg.run
  refine ⟨⟨by simpa [World.setCell] using hg.Bs, hg.rbB, hg.left, hg.fuelB, hg.bnd, ⟨Ai, ci, (hne rb (fun e => hg.rbca (e ▸ hbm))).trans hr, hi.below hst, hci⟩, ?_, hg.falen, hg.fnsEvo hk, by simp [hg.calen], ?_, hg.nodup, hg.rbca, hg.rbo, hg.oca, hg.caB⟩, hk⟩
  · refine hg.out.kept (row := some b) ⟨rfl, rfl, rfl, by simp [World.setCell], fun i hi h => hne i (fun e => h (by rw [e]))⟩ ?_
    exact .inr (hg.oca b hbm)
  · intro j hj
    have hj' : j < s.cells.length := by simpa using hj
    obtain ⟨b', gv, h1, h2, h3⟩ := hg.cells j hj'
    by_cases hji : j = i
    · subst hji
      rw [hb] at h1; cases h1
      refine ⟨b, ga, hb, ?_, by simpa using ha.evo hk⟩
      exact heap_set_self h2 0 ga
    · refine ⟨b', gv, h1, (hne b' ?_).trans h2, ?_⟩
      · rintro rfl
        have hjl : j < m.ca.length := (List.getElem?_eq_some_iff.1 h1).1
        have hil : i < m.ca.length := (List.getElem?_eq_some_iff.1 hb).1
        have hp := List.pairwise_iff_getElem.1 hg.nodup
        rw [List.getElem?_eq_getElem hjl] at h1
        rw [List.getElem?_eq_getElem hil] at hb
        simp only [Option.some.injEq] at h1 hb
        rcases Nat.lt_or_gt_of_ne hji with h | h
        · exact hp j i hjl hil h (h1.trans hb.symm)
        · exact hp i j hil hjl h (hb.trans h1.symm)
      · have : (s.cells.set i a)[j] = s.cells[j] := by simp [List.getElem_set, Ne.symm hji]
        simpa [this] using h3.evo hk

theorem Good.neRb (hg : Good rb B p inp fuel s m W) {b : Nat} (hb : b ∈ m.ca) : b ≠ rb := fun e => hg.rbca (e ▸ hb)
/-- the run's own record is turned, functions and cells are as they were -/
theorem Good.turn {s' : FSt} (hg : Good rb B p inp fuel s m W) (hk : Evo rb m m' W W') (hmade : s'.made = s.made) (hcells : s'.cells = s.cells) (hfa : m'.fa = m.fa) (hca : m'.ca = m.ca) (hcb : ∀ b ∈ m.ca, W'.heap[b]? = W.heap[b]?)
    (hleft : s'.left ≤ fuel) (hbnd : s'.out.length + s'.left ≤ fuel)
    (hrun : ∃ Ai ci, W'.heap[rb]? = some (.cells #[.slice Ai (inp.drop s'.asked).length ci, .int .i64 fuel, .int .i64 0, .int .i64 0, m'.vo, .int .i64 ((fuel : Int) - s'.left)] 55 (0, 0)) ∧ IntsIn B W' Ai (inp.drop s'.asked) ∧ (inp.drop s'.asked).length ≤ ci)
    (hout : W'.ownsRow B 3 1 m'.vo s'.out.length (s'.out.map (Value.int .i64))) (hrbo : m'.vo.ownBlock ≠ some rb) (hoca : ∀ b ∈ m.ca, m'.vo.ownBlock ≠ some b) : Good rb B p inp fuel s' m' W' := by
  refine ⟨Nat.le_trans hg.Bs hk.size, hg.rbB, hleft, hg.fuelB, hbnd, hrun, hout, by rw [hfa, hmade]; exact hg.falen, ?_, by rw [hca, hcells]; exact hg.calen, ?_, by rw [hca]; exact hg.nodup, by rw [hca]; exact hg.rbca, hrbo, by rw [hca]; exact hoca, by rw [hca]; exact hg.caB⟩
  · rw [hmade]; exact hg.fnsEvo hk
  · rw [hcells]
    intro i hi
    obtain ⟨b, gv, h1, h2, h3⟩ := hg.cells i hi
    exact ⟨b, gv, prefix_get hk.ca h1, (hcb b (List.mem_of_getElem? h1)).trans h2, h3.evo hk⟩

/-- a step is taken -/
theorem Good.step (hg : Good rb B p inp fuel s m W) (hl : 0 < s.left) : Good rb B p inp fuel { s with left := s.left - 1 } m (W.setCell ⟨rb, 5, none⟩ (.int .i64 ((fuel : Int) - s.left + 1))) ∧ Evo rb m m W (W.setCell ⟨rb, 5, none⟩ (.int .i64 ((fuel : Int) - s.left + 1))) := by
  have hk : Evo rb m m W (W.setCell ⟨rb, 5, none⟩ (.int .i64 ((fuel : Int) - s.left + 1))) := Evo.setCell W 5 _ (.inl rfl)
  obtain ⟨Ai, ci, hr, hi, hci⟩ := hg.run
  refine ⟨hg.turn hk rfl rfl rfl rfl (fun b hb => heap_set_ne (hg.neRb hb) _ _) (by have := hg.left; show s.left - 1 ≤ fuel; omega) (by have := hg.bnd; show s.out.length + (s.left - 1) ≤ fuel; omega) ⟨Ai, ci, ?_, hi.below (hg.stay hk), hci⟩ ?_ hg.rbo hg.oca, hk⟩
  · rw [heap_set_self hr]
    have : ((s.left - 1 : Nat) : Int) = s.left - 1 := by omega
    simp [this]
    omega
  · exact hg.out.kept (row := some rb) ⟨rfl, rfl, rfl, by simp [World.setCell], fun i hi h => heap_set_ne (fun e => h (by rw [e])) _ _⟩ (.inr hg.rbo)

/-- an int is read -/
theorem Good.read (hg : Good rb B p inp fuel s m W) {Ai : Option Addr} {ci : Nat} (hi : IntsIn B W Ai (inp.drop (s.asked + 1))) (hci : (inp.drop (s.asked + 1)).length ≤ ci) :
    Good rb B p inp fuel { s with asked := s.asked + 1 } m (W.setCell ⟨rb, 0, none⟩ (.slice Ai (inp.drop (s.asked + 1)).length ci)) ∧ Evo rb m m W (W.setCell ⟨rb, 0, none⟩ (.slice Ai (inp.drop (s.asked + 1)).length ci)) := by
  have hk : Evo rb m m W (W.setCell ⟨rb, 0, none⟩ (.slice Ai (inp.drop (s.asked + 1)).length ci)) := Evo.setCell W 0 _ (.inl rfl)
  obtain ⟨Ai', ci', hr, hi', hci'⟩ := hg.run
  refine ⟨hg.turn hk rfl rfl rfl rfl (fun b hb => heap_set_ne (hg.neRb hb) _ _) hg.left hg.bnd ⟨Ai, ci, ?_, hi.below (hg.stay hk), hci⟩ ?_ hg.rbo hg.oca, hk⟩
  · rw [heap_set_self hr]
    simp
  · exact hg.out.kept (row := some rb) ⟨rfl, rfl, rfl, by simp [World.setCell], fun i hi h => heap_set_ne (fun e => h (by rw [e])) _ _⟩ (.inr hg.rbo)

/-- more was asked for than there is: nothing turns -/
theorem Good.past (hg : Good rb B p inp fuel s m W) (hp : inp.length ≤ s.asked) : Good rb B p inp fuel { s with asked := s.asked + 1 } m W := by
  obtain ⟨Ai, ci, hr, hi, hci⟩ := hg.run
  have h1 : inp.drop s.asked = [] := List.drop_eq_nil_iff.2 hp
  have h2 : inp.drop (s.asked + 1) = [] := List.drop_eq_nil_iff.2 (by omega)
  refine hg.turn (Evo.refl _ _ _) rfl rfl rfl rfl (fun _ _ => rfl) hg.left hg.bnd ⟨Ai, ci, ?_, ?_, ?_⟩ hg.out hg.rbo hg.oca
  · rw [hr, h1, h2]
  · rw [h2, ← h1]; exact hi
  · rw [h2]; simp

/-- an int is printed -/
theorem Good.print (hg : Good rb B p inp fuel s m W) (hs : s.out.length + s.left < fuel) {W2 w1 : World} (hb2 : Below W.heap.size W W2) {n : Int} {v' : Value} (h1 : w1.ownsRow B 3 1 v' (s.out.length + 1) (s.out.map (Value.int .i64) ++ [.int .i64 n]))
    (h2 : W2.grownBy w1 m.vo.ownBlock) (hat : v'.ownBlock = m.vo.ownBlock ∨ v'.ownBlock = some W2.heap.size) :
    Good rb B p inp fuel { s with out := s.out ++ [n] } { m with vo := v' } (w1.setCell ⟨rb, 4, none⟩ v') ∧ Evo rb m { m with vo := v' } W (w1.setCell ⟨rb, 4, none⟩ v') := by
  have hsz := hb2.size
  have hrbl := hg.mutLt (k := rb) (.inl rfl)
  have hk : Evo rb m { m with vo := v' } W (w1.setCell ⟨rb, 4, none⟩ v') := by
    refine ⟨h2.os.trans hb2.os, h2.tape.trans hb2.tape, h2.output.trans hb2.output, ?_, ?_, ?_, List.prefix_refl _, List.prefix_refl _⟩
    · have := h2.size; simp [World.setCell]; omega
    · intro k hk hm
      rw [heap_set_ne (fun e => hm (.inl e))]
      exact (h2.block k (by omega) (fun e => hm (.inr (.inl e.symm)))).trans (hb2.block k hk)
    · intro k hk
      rcases hk with rfl | hk | hk
      · exact .inl (.inl rfl)
      · rcases hat with h | h
        · exact .inl (.inr (.inl (h ▸ hk)))
        · have := h.symm.trans hk; simp at this; exact .inr (by omega)
      · exact .inl (.inr (.inr hk))
  have hrb' : v'.ownBlock ≠ some rb := by
    rcases hat with h | h
    · rw [h]; exact hg.rbo
    · rw [h]; simp; omega
  obtain ⟨Ai, ci, hr, hi, hci⟩ := hg.run
  refine ⟨hg.turn hk rfl rfl rfl rfl ?_ hg.left ?_ ⟨Ai, ci, ?_, hi.below (hg.stay hk), hci⟩ ?_ hrb' ?_, hk⟩
  · intro b hb
    have hbl := hg.mutLt (k := b) (.inr (.inr hb))
    rw [heap_set_ne (hg.neRb hb)]
    exact (h2.block b (by omega) (fun e => hg.oca b hb e.symm)).trans (hb2.block b hbl)
  · show (s.out ++ [n]).length + s.left ≤ fuel
    simp; omega
  · have : w1.heap[rb]? = _ := (h2.block rb (by omega) (fun e => hg.rbo e.symm)).trans ((hb2.block rb hrbl).trans hr)
    rw [heap_set_self this]
    simp
  · have := h1.kept (w' := w1.setCell ⟨rb, 4, none⟩ v') (row := some rb) ⟨rfl, rfl, rfl, by simp [World.setCell], fun i hi h => heap_set_ne (fun e => h (by rw [e])) _ _⟩ (.inr hrb')
    simpa using this
  · intro b hb
    have hbl := hg.mutLt (k := b) (.inr (.inr hb))
    rcases hat with h | h
    · rw [h]; exact hg.oca b hb
    · rw [h]; simp; omega
/-- a function more -/
theorem Good.addFn (hg : Good rb B p inp fuel s m W) {f : AFn} {a0 a1 a2 ge : Value} (hbd : BodyIn B W f.body #[a0, a1, a2]) (hwf : WfA p.funs.length f.body) (he : EnvIn rb m W f.env ge) :
    Good rb B p inp fuel { s with made := s.made ++ [f] } { m with fa := m.fa ++ [W.heap.size] } (W.alloc (.cells #[.int .i64 f.param, a0, a1, a2, ge] 96)) ∧ Evo rb m { m with fa := m.fa ++ [W.heap.size] } W (W.alloc (.cells #[.int .i64 f.param, a0, a1, a2, ge] 96)) ∧
      RepV rb { m with fa := m.fa ++ [W.heap.size] } (W.alloc (.cells #[.int .i64 f.param, a0, a1, a2, ge] 96)) (.fn s.made.length) (.iface 94 (.pointer (some ⟨W.heap.size, 0, none⟩))) := by
  have hk : Evo rb m { m with fa := m.fa ++ [W.heap.size] } W (W.alloc (.cells #[.int .i64 f.param, a0, a1, a2, ge] 96)) :=
    (Evo.alloc rb m W _).more (List.prefix_append _ _) (List.prefix_refl _) (fun k h => .inl h)
  have hgb := hg.below ((Below.refl W.heap.size W).alloc (Nat.le_refl _) (.cells #[.int .i64 f.param, a0, a1, a2, ge] 96))
  have hat : (m.fa ++ [W.heap.size])[s.made.length]? = some W.heap.size := by rw [← hg.falen, List.getElem?_append_right (Nat.le_refl _)]; simp
  refine ⟨⟨hgb.Bs, hg.rbB, hg.left, hg.fuelB, hg.bnd, hgb.run, hgb.out, by simp [hg.falen], ?_, hg.calen, ?_, hg.nodup, hg.rbca, hg.rbo, hg.oca, hg.caB⟩, hk, .fn hat⟩
  · intro i hi
    by_cases h : i < s.made.length
    · simp only [List.getElem_append_left h]
      exact hg.fnsEvo hk i h
    · have : i = s.made.length := by simp at hi; omega
      subst this
      have hget : (s.made ++ [f])[s.made.length]'(by simp) = f := by simp
      simp only [hget]
      exact ⟨W.heap.size, a0, a1, a2, ge, hat, ⟨World.alloc_heap_new W _, fun hm => by have := hg.mutLt (k := W.heap.size) hm; omega⟩, hbd.kept (hg.stay hk), hwf, he.evo hk⟩
  · intro i hi
    obtain ⟨b, gv, h1, h2, h3⟩ := hg.cells i hi
    exact ⟨b, gv, h1, (((Below.refl W.heap.size W).alloc (Nat.le_refl _) (.cells #[.int .i64 f.param, a0, a1, a2, ge] 96)).block b (Array.getElem?_eq_some_iff.1 h2).1).trans h2, h3.evo hk⟩
end

section
variable {P : Program} (w : World)
theorem wp_append_at {o : Oper} {a : Act} {K : Act → World → Prop} {Q : Exit → Act → World → Prop} (s x : Operand) (t : TypeId)
    (ho : o.op = .call { callee := .builtin .append, args := #[s, x], argTypes := #[t, t] })
    (base : Nat) (e : TypeId) (i : TypeInfo) (z : Value) (size bytes : Nat) (ht : P.underlying t = some (.slice e)) (hi : P.info? e = some i) (hz : i.zero = some z)
    (hsize : i.size = size) (hby : i.bytes = bytes) (hzs : z.cells.size = size) (hsz : 0 < size)
    (v : Value) (n : Nat) (xs : List Value) (hs : a.eval s = v) (hown : w.ownsRow base e size v n xs)
    (ad : Addr) (m c : Nat) (news : List Value) (hx : a.eval x = .slice (some ad) m c) (hl : news.length = m * size) (hnews : ∀ j u, news[j]? = some u → w.cell? (ad.add j) = some u) (h1 : ∀ u ∈ news, u.oneCell' = true)
    (h63 : n + m ≤ maxLen) (hbytes : (n + m) * bytes ≤ 140737488355328) (hbase : base ≤ w.heap.size)
    (h : ∀ v' w', w'.ownsRow base e size v' (n + m) (xs ++ news) → w.grownBy w' v.ownBlock → (v'.ownBlock = v.ownBlock ∨ v'.ownBlock = some w.heap.size) → K (a.put o.dst v') w') : o.wp P a w K Q := by
  obtain ⟨v', w', hr, h2, h3, _, h4⟩ := run_append_own_at (P := P) w base t o.type e i z size bytes ht hi hz hsize hby hzs hsz v n xs hown ad m c news hl hnews h1 h63 hbytes hbase
  unfold Oper.wp execOp
  simp only [ho, resolve, invoke, builtin, Sem.run_bind, Sem.run_pure, Result.andThen_ok, List.map_toArray, List.map_cons, List.map_nil, hs, hx, hr]
  exact h v' w' h2 h3 h4
end
end Go.Proofs.YtllakbiipdcboaaDoor
