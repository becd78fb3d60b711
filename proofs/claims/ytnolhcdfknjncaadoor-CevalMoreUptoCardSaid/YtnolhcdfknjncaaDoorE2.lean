/-
  The small functions of the program's evaluator: stuck, key, number, find, num.Do.
-/
import Derived.Test.YtnolhcdfknjncaaDoorE1
import Derived.Deep.LoopGhost
set_option linter.unusedVariables false
set_option linter.unusedSimpArgs false
namespace Go.Proofs.YtnolhcdfknjncaaDoor
open Go.RowKit

/-- what is thrown where a run stops; where something is raised -/
def stopV (k : Int) : List PanicEntry := [{ v := .iface 79 (.agg #[.int .i64 k]), recovered := false }]
def raisedV (g : Value) : List PanicEntry := [{ v := .iface 81 (.agg #[g]), recovered := false }]

/-! ### type assertions -/
theorem ta_i_i (x : Value) (w : World) : (Instr.typeAssert (.iface 87 x) 54 87 true).run Tryd.prog w = .ok (.tuple #[x, .bool true]) w := by kernel_rfl
theorem ta_b_i (x : Value) (w : World) : (Instr.typeAssert (.iface 95 x) 54 87 true).run Tryd.prog w = .ok (.tuple #[.int .i64 0, .bool false]) w := by kernel_rfl
theorem ta_f_i (x : Value) (w : World) : (Instr.typeAssert (.iface 88 x) 54 87 true).run Tryd.prog w = .ok (.tuple #[.int .i64 0, .bool false]) w := by kernel_rfl
theorem ta_c_i (x : Value) (w : World) : (Instr.typeAssert (.iface 126 x) 54 87 true).run Tryd.prog w = .ok (.tuple #[.int .i64 0, .bool false]) w := by kernel_rfl
theorem ta_i_b (x : Value) (w : World) : (Instr.typeAssert (.iface 87 x) 54 95 true).run Tryd.prog w = .ok (.tuple #[.pointer none, .bool false]) w := by kernel_rfl
theorem ta_b_b (x : Value) (w : World) : (Instr.typeAssert (.iface 95 x) 54 95 true).run Tryd.prog w = .ok (.tuple #[x, .bool true]) w := by kernel_rfl
theorem ta_f_b (x : Value) (w : World) : (Instr.typeAssert (.iface 88 x) 54 95 true).run Tryd.prog w = .ok (.tuple #[.pointer none, .bool false]) w := by kernel_rfl
theorem ta_c_b (x : Value) (w : World) : (Instr.typeAssert (.iface 126 x) 54 95 true).run Tryd.prog w = .ok (.tuple #[.pointer none, .bool false]) w := by kernel_rfl
theorem ta_i_f (x : Value) (w : World) : (Instr.typeAssert (.iface 87 x) 54 88 true).run Tryd.prog w = .ok (.tuple #[.pointer none, .bool false]) w := by kernel_rfl
theorem ta_b_f (x : Value) (w : World) : (Instr.typeAssert (.iface 95 x) 54 88 true).run Tryd.prog w = .ok (.tuple #[.pointer none, .bool false]) w := by kernel_rfl
theorem ta_f_f (x : Value) (w : World) : (Instr.typeAssert (.iface 88 x) 54 88 true).run Tryd.prog w = .ok (.tuple #[x, .bool true]) w := by kernel_rfl
theorem ta_c_f (x : Value) (w : World) : (Instr.typeAssert (.iface 126 x) 54 88 true).run Tryd.prog w = .ok (.tuple #[.pointer none, .bool false]) w := by kernel_rfl
theorem ta_i_c (x : Value) (w : World) : (Instr.typeAssert (.iface 87 x) 54 126 true).run Tryd.prog w = .ok (.tuple #[.pointer none, .bool false]) w := by kernel_rfl
theorem ta_b_c (x : Value) (w : World) : (Instr.typeAssert (.iface 95 x) 54 126 true).run Tryd.prog w = .ok (.tuple #[.pointer none, .bool false]) w := by kernel_rfl
theorem ta_f_c (x : Value) (w : World) : (Instr.typeAssert (.iface 88 x) 54 126 true).run Tryd.prog w = .ok (.tuple #[.pointer none, .bool false]) w := by kernel_rfl
theorem ta_c_c (x : Value) (w : World) : (Instr.typeAssert (.iface 126 x) 54 126 true).run Tryd.prog w = .ok (.tuple #[x, .bool true]) w := by kernel_rfl
theorem ta_s_s (x : Value) (w : World) : (Instr.typeAssert (.iface 79 x) 20 79 true).run Tryd.prog w = .ok (.tuple #[x, .bool true]) w := by kernel_rfl
theorem ta_s_r (x : Value) (w : World) : (Instr.typeAssert (.iface 79 x) 20 81 true).run Tryd.prog w = .ok (.tuple #[.agg #[.nilIface], .bool false]) w := by kernel_rfl
theorem ta_r_r (x : Value) (w : World) : (Instr.typeAssert (.iface 81 x) 20 81 true).run Tryd.prog w = .ok (.tuple #[x, .bool true]) w := by kernel_rfl
theorem ta_r_s (x : Value) (w : World) : (Instr.typeAssert (.iface 81 x) 20 79 true).run Tryd.prog w = .ok (.tuple #[.agg #[.int .i64 0], .bool false]) w := by kernel_rfl
attribute [go_sem ↓] ta_i_i ta_b_i ta_f_i ta_c_i ta_i_b ta_b_b ta_f_b ta_c_b ta_i_f ta_b_f ta_f_f ta_c_f ta_i_c ta_b_c ta_f_c ta_c_c ta_s_s ta_s_r ta_r_r ta_r_s

theorem stuck_any (w : World) : Calls Tryd.prog 40 #[] w fun e w' => e = .panicked (stopV 4) ∧ w = w' := by
  go_enter Tryd.func40, Tryd.ntmps40
  go_wp2
  exact ⟨rfl, rfl, rfl⟩

theorem key_int (n : Int) (w : World) : Calls Tryd.prog 37 #[.iface 87 (.int .i64 n)] w fun e w' => e = .returned (.int .i64 n) ∧ w = w' := by
  go_enter Tryd.func37, Tryd.ntmps37
  go_wp2_with fail
  go_ret
  exact ⟨rfl, rfl⟩
theorem key_blk (b : Nat) (n : Int) (w : World) (hc : w.cell? ⟨b, 0, none⟩ = some (.int .i64 n)) : Calls Tryd.prog 37 #[.iface 95 (.pointer (some ⟨b, 0, none⟩))] w fun e w' => e = .returned (.int .i64 n) ∧ w = w' := by
  go_enter Tryd.func37, Tryd.ntmps37
  go_wp2_with fail
  go_ret
  exact ⟨rfl, rfl⟩
theorem key_fn (a : Value) (w : World) : Calls Tryd.prog 37 #[.iface 88 a] w fun e w' => e = .panicked (stopV 4) ∧ w = w' := by
  go_enter Tryd.func37, Tryd.ntmps37
  go_wp2_with (go_at_call 40; refine (stuck_any _).mono ?_; rintro e w' ⟨rfl, rfl⟩)
  exact ⟨rfl, rfl, rfl⟩
theorem key_ref (a : Value) (w : World) : Calls Tryd.prog 37 #[.iface 126 a] w fun e w' => e = .panicked (stopV 4) ∧ w = w' := by
  go_enter Tryd.func37, Tryd.ntmps37
  go_wp2_with (go_at_call 40; refine (stuck_any _).mono ?_; rintro e w' ⟨rfl, rfl⟩)
  exact ⟨rfl, rfl, rfl⟩
/-- how a question of a value for a number ends -/
def AskedPost (o : Option Int) (w : World) (e : Ending) (w' : World) : Prop := (∃ n, o = some n ∧ e = .returned (.int .i64 n) ∧ w = w') ∨ (o = none ∧ e = .panicked (stopV 4) ∧ w = w')
theorem at_cell0 {rb : Nat} {m : Mem} {W : World} {b : Nat} {cs : Array Value} {t : TypeId} {fr : Nat × Nat} (h : At rb m W b (.cells cs t fr)) {i : Nat} {v : Value} (hv : cs[i]? = some v) : W.cell? ⟨b, i, none⟩ = some v := by
  simp [World.cell?, h.1, hv]
theorem key_any {rb : Nat} {m : Mem} {W : World} {v : PV} {g : Value} (h : RepV rb m W v g) : Calls Tryd.prog 37 #[g] W (AskedPost (keyOf v) W) := by
  cases h with
  | int n => exact (key_int n W).mono fun e w' ⟨h1, h2⟩ => .inl ⟨n, rfl, h1, h2⟩
  | @blk tag kids b g cap F hb hg hgm hl h8 hc hk => exact (key_blk b tag W (at_cell0 hb rfl)).mono fun e w' ⟨h1, h2⟩ => .inl ⟨tag, rfl, h1, h2⟩
  | fn h => exact (key_fn _ W).mono fun e w' ⟨h1, h2⟩ => .inr ⟨rfl, h1, h2⟩
  | ref h => exact (key_ref _ W).mono fun e w' ⟨h1, h2⟩ => .inr ⟨rfl, h1, h2⟩

theorem number_int (n : Int) (w : World) : Calls Tryd.prog 69 #[.iface 87 (.int .i64 n)] w fun e w' => e = .returned (.int .i64 n) ∧ w = w' := by
  go_enter Tryd.func69, Tryd.ntmps69
  go_wp2_with fail
  go_ret
  exact ⟨rfl, rfl⟩
theorem number_other (T : TypeId) (hT : T = 95 ∨ T = 88 ∨ T = 126) (a : Value) (w : World) : Calls Tryd.prog 69 #[.iface T a] w fun e w' => e = .panicked (stopV 4) ∧ w = w' := by
  rcases hT with rfl | rfl | rfl
  all_goals
    go_enter Tryd.func69, Tryd.ntmps69
    go_wp2_with (go_at_call 40; refine (stuck_any _).mono ?_; rintro e w' ⟨rfl, rfl⟩)
    exact ⟨rfl, rfl, rfl⟩
theorem cnumber_any {rb : Nat} {m : Mem} {W : World} {v : PV} {g : Value} (h : RepV rb m W v g) : Calls Tryd.prog 69 #[g] W (AskedPost (numOf v) W) := by
  cases h with
  | int n => exact (number_int n W).mono fun e w' ⟨h1, h2⟩ => .inl ⟨n, rfl, h1, h2⟩
  | blk hb hg hgm hl h8 hc hk => exact (number_other _ (.inl rfl) _ W).mono fun e w' ⟨h1, h2⟩ => .inr ⟨rfl, h1, h2⟩
  | fn h => exact (number_other _ (.inr (.inl rfl)) _ W).mono fun e w' ⟨h1, h2⟩ => .inr ⟨rfl, h1, h2⟩
  | ref h => exact (number_other _ (.inr (.inr rfl)) _ W).mono fun e w' ⟨h1, h2⟩ => .inr ⟨rfl, h1, h2⟩

/-! ### find -/
def FindPost (rb : Nat) (m : Mem) (W : World) (o : Option PV) (e : Ending) (w' : World) : Prop := (∃ v g, o = some v ∧ e = .returned (.tuple #[g, .bool true]) ∧ RepV rb m W v g ∧ W = w') ∨ (o = none ∧ e = .returned (.tuple #[.nilIface, .bool false]) ∧ W = w')
theorem lookup_cons (x y : Int) (v : PV) (e : PEnv) : lookup ((y, v) :: e) x = if y = x then some v else lookup e x := by
  unfold lookup
  by_cases h : y = x
  · simp [h]
  · have : (y == x) = false := by simpa using h
    simp [List.find?_cons, this, h]
theorem find_any {rb : Nat} {m : Mem} {W : World} {env : PEnv} {g : Value} (h : EnvIn rb m W env g) (x : Int) : Calls Tryd.prog 39 #[g, .int .i64 x] W (FindPost rb m W (lookup env x)) := by
  go_enter Tryd.func39, Tryd.ntmps39
  go_wp2_with fail
  go_loopg [0] env.length (fun k p wr => W = wr ∧ ∃ e' : PEnv, EnvIn rb m W e' p ∧ e'.length = k ∧ lookup env x = lookup e' x)
  case atStart => exact ⟨rfl, env, h, rfl, rfl⟩
  case round =>
    obtain ⟨rfl, e', he, hk, hl⟩ := hrel
    have HL := Lib.hid hl
    clear hl h
    cases he with
    | nil =>
      go_wp2_with fail
      go_ret2
      exact .inr ⟨HL.out, rfl, rfl⟩
    | @cons y v e gv nx b hb hv he =>
      have c0 := at_cell0 hb (i := 0) rfl
      have c1 := at_cell0 hb (i := 1) rfl
      have c2 := at_cell0 hb (i := 2) rfl
      have HK := Lib.hid hk
      clear hk
      by_cases hx : y = x
      · have hx' : (y == x) = true := by simpa using hx
        have hl2 := Lib.hid (HL.out.trans ((lookup_cons x y v e).trans (if_pos hx)))
        have HX := Lib.hid hx
        clear hx
        go_wp2_with fail
        go_ret2
        exact .inl ⟨v, gv, hl2.out, rfl, hv, rfl⟩
      · have hx' : (y == x) = false := by simpa using hx
        have hl2 := Lib.hid (HL.out.trans ((lookup_cons x y v e).trans (if_neg hx)))
        go_wp2_with fail
        go_roundg e.length
        case measure => have := HK.out; simp at this; omega
        case rel => exact ⟨rfl, e, he, rfl, hl2.out⟩

/-! ### num.Do -/
def AsksPost (g : Nat) (w : World) (e : Ending) (w' : World) : Prop :=
  ∃ b, e = .returned (.agg #[.func (.func 93) #[] #[.pointer (some ⟨b, 0, none⟩)]]) ∧ w'.cell? ⟨b, 0, none⟩ = some (.func (.func g) #[] #[]) ∧ w.heap.size ≤ b ∧ Below w.heap.size w w'
theorem asks_any (g : Nat) (w : World) : Calls Tryd.prog 92 #[.func (.func g) #[] #[]] w (AsksPost g w) := by
  go_enter Tryd.func92, Tryd.ntmps92
  go_wp2_with fail
  refine bodyPost_ret (v := .agg #[.func (.func 93) #[] #[.pointer (some ⟨w.heap.size, 0, none⟩)]]) (by simp [results, Tryd.results92, go_sem]) rfl ?_
  exact ⟨w.heap.size, rfl, by rw [World.cell?_alloc_past _ _ _ (by simp), World.cell?_alloc_at _ _ _ _ rfl]; rfl, Nat.le_refl _, ((Below.refl _ _).alloc (Nat.le_refl _) _).alloc (by simp) _⟩

def DoersPost (w : World) (e : Ending) (w' : World) : Prop :=
  ∃ b6 b7 b8 b9, e = .returned (.agg #[.func (.func 95) #[] #[], .func (.func 96) #[] #[], .func (.func 97) #[] #[], .func (.func 98) #[] #[], .func (.func 99) #[] #[],
      .func (.func 93) #[] #[.pointer (some ⟨b6, 0, none⟩)], .func (.func 93) #[] #[.pointer (some ⟨b7, 0, none⟩)], .func (.func 93) #[] #[.pointer (some ⟨b8, 0, none⟩)], .func (.func 93) #[] #[.pointer (some ⟨b9, 0, none⟩)]]) ∧
    w'.cell? ⟨b6, 0, none⟩ = some (.func (.func 100) #[] #[]) ∧ w'.cell? ⟨b7, 0, none⟩ = some (.func (.func 101) #[] #[]) ∧ w'.cell? ⟨b8, 0, none⟩ = some (.func (.func 102) #[] #[]) ∧ w'.cell? ⟨b9, 0, none⟩ = some (.func (.func 103) #[] #[]) ∧ Below w.heap.size w w'
theorem cell_behind {W W' : World} (hb : Below W.heap.size W W') {b o : Nat} {v : Value} (h : W.cell? ⟨b, o, none⟩ = some v) : W'.cell? ⟨b, o, none⟩ = some v :=
  (hb.cell (p := ⟨b, o, none⟩) (World.block_lt_of_cell? _ _ h)).trans h
set_option maxHeartbeats 1000000 in
theorem doers_any (w : World) : Calls Tryd.prog 87 #[] w (DoersPost w) := by
  go_enter Tryd.func87, Tryd.ntmps87
  go_wp2_with fail
  refine (asks_any _ _).mono ?_
  rintro e w1 ⟨b6, rfl, h6, hl6, hb1⟩
  go_wp2_with fail
  refine (asks_any _ _).mono ?_
  rintro e w2 ⟨b7, rfl, h7, hl7, hb2⟩
  go_wp2_with fail
  refine (asks_any _ _).mono ?_
  rintro e w3 ⟨b8, rfl, h8, hl8, hb3⟩
  go_wp2_with fail
  refine (asks_any _ _).mono ?_
  rintro e w4 ⟨b9, rfl, h9, hl9, hb4⟩
  have hw0 : (w.alloc (.cells #[Value.nilFunc, Value.nilFunc, Value.nilFunc, Value.nilFunc, Value.nilFunc, Value.nilFunc, Value.nilFunc, Value.nilFunc, Value.nilFunc] 150)).heap[w.heap.size]? = some (.cells #[Value.nilFunc, Value.nilFunc, Value.nilFunc, Value.nilFunc, Value.nilFunc, Value.nilFunc, Value.nilFunc, Value.nilFunc, Value.nilFunc] 150) := World.alloc_heap_new w _
  have s1 := hb1.size
  have s2 := hb2.size
  have s3 := hb3.size
  have s4 := hb4.size
  simp only [World.size_alloc] at s1 hl6
  have hw4 : w4.heap[w.heap.size]? = some (.cells #[Value.nilFunc, Value.nilFunc, Value.nilFunc, Value.nilFunc, Value.nilFunc, Value.nilFunc, Value.nilFunc, Value.nilFunc, Value.nilFunc] 150) :=
    (hb4.block _ (by omega)).trans ((hb3.block _ (by omega)).trans ((hb2.block _ (by omega)).trans ((hb1.block _ (by simp)).trans hw0)))
  have k0 : w4.cell? ⟨w.heap.size, 0, none⟩ = some .nilFunc := by simp [World.cell?, hw4]
  have k1 : w4.cell? ⟨w.heap.size, 1, none⟩ = some .nilFunc := by simp [World.cell?, hw4]
  have k2 : w4.cell? ⟨w.heap.size, 2, none⟩ = some .nilFunc := by simp [World.cell?, hw4]
  have k3 : w4.cell? ⟨w.heap.size, 3, none⟩ = some .nilFunc := by simp [World.cell?, hw4]
  have k4 : w4.cell? ⟨w.heap.size, 4, none⟩ = some .nilFunc := by simp [World.cell?, hw4]
  have k5 : w4.cell? ⟨w.heap.size, 5, none⟩ = some .nilFunc := by simp [World.cell?, hw4]
  have k6 : w4.cell? ⟨w.heap.size, 6, none⟩ = some .nilFunc := by simp [World.cell?, hw4]
  have k7 : w4.cell? ⟨w.heap.size, 7, none⟩ = some .nilFunc := by simp [World.cell?, hw4]
  have k8 : w4.cell? ⟨w.heap.size, 8, none⟩ = some .nilFunc := by simp [World.cell?, hw4]
  have fz : ∀ i, w4.frozen? ⟨w.heap.size, i, none⟩ = false := fun i => by simp [World.frozen?, hw4]
  have hB4 : Below w.heap.size w w4 := ((Below.refl _ w).alloc (Nat.le_refl _) _).trans ((hb1.mono (by simp)).trans ((hb2.mono (by omega)).trans ((hb3.mono (by omega)).trans (hb4.mono (by omega)))))
  have q6 := cell_behind hb4 (cell_behind hb3 (cell_behind hb2 h6))
  have q7 := cell_behind hb4 (cell_behind hb3 h7)
  have q8 := cell_behind hb4 h8
  have HB := Lib.hid hB4
  have H6 := Lib.hid q6
  have H7 := Lib.hid q7
  have H8 := Lib.hid q8
  have H9 := Lib.hid h9
  clear hb1 hb2 hb3 hb4 h6 h7 h8 h9 q6 q7 q8 hB4 hw0 hw4
  go_wp2_with fail
  refine bodyPost_ret (v := .agg #[.func (.func 95) #[] #[], .func (.func 96) #[] #[], .func (.func 97) #[] #[], .func (.func 98) #[] #[], .func (.func 99) #[] #[],
      .func (.func 93) #[] #[.pointer (some ⟨b6, 0, none⟩)], .func (.func 93) #[] #[.pointer (some ⟨b7, 0, none⟩)], .func (.func 93) #[] #[.pointer (some ⟨b8, 0, none⟩)], .func (.func 93) #[] #[.pointer (some ⟨b9, 0, none⟩)]])
    (by simp [results, Tryd.results87, go_sem, k0, k1, k2, k3, k4, k5, k6, k7, k8]) rfl ?_
  have hne : ∀ (V : World) (o : Nat) (u : Value) (b : Nat), w.heap.size < b → (V.setCell ⟨w.heap.size, o, none⟩ u).cell? ⟨b, 0, none⟩ = V.cell? ⟨b, 0, none⟩ := fun V o u b hb => World.cell?_of_block (w := V) (Below.heap_setCell V _ _ b (by show b ≠ w.heap.size; omega))
  refine ⟨b6, b7, b8, b9, rfl, ?_, ?_, ?_, ?_, ?_⟩
  · rw [hne _ _ _ _ (by omega), hne _ _ _ _ (by omega), hne _ _ _ _ (by omega), hne _ _ _ _ (by omega), hne _ _ _ _ (by omega), hne _ _ _ _ (by omega), hne _ _ _ _ (by omega), hne _ _ _ _ (by omega), hne _ _ _ _ (by omega)]; exact H6.out
  · rw [hne _ _ _ _ (by omega), hne _ _ _ _ (by omega), hne _ _ _ _ (by omega), hne _ _ _ _ (by omega), hne _ _ _ _ (by omega), hne _ _ _ _ (by omega), hne _ _ _ _ (by omega), hne _ _ _ _ (by omega), hne _ _ _ _ (by omega)]; exact H7.out
  · rw [hne _ _ _ _ (by omega), hne _ _ _ _ (by omega), hne _ _ _ _ (by omega), hne _ _ _ _ (by omega), hne _ _ _ _ (by omega), hne _ _ _ _ (by omega), hne _ _ _ _ (by omega), hne _ _ _ _ (by omega), hne _ _ _ _ (by omega)]; exact H8.out
  · rw [hne _ _ _ _ (by omega), hne _ _ _ _ (by omega), hne _ _ _ _ (by omega), hne _ _ _ _ (by omega), hne _ _ _ _ (by omega), hne _ _ _ _ (by omega), hne _ _ _ _ (by omega), hne _ _ _ _ (by omega), hne _ _ _ _ (by omega)]; exact H9.out
  · exact ((((((((HB.out.setCell (p := ⟨_, _, none⟩) (Nat.le_refl _) _).setCell (p := ⟨_, _, none⟩) (Nat.le_refl _) _).setCell (p := ⟨_, _, none⟩) (Nat.le_refl _) _).setCell (p := ⟨_, _, none⟩) (Nat.le_refl _) _).setCell (p := ⟨_, _, none⟩) (Nat.le_refl _) _).setCell (p := ⟨_, _, none⟩) (Nat.le_refl _) _).setCell (p := ⟨_, _, none⟩) (Nat.le_refl _) _).setCell (p := ⟨_, _, none⟩) (Nat.le_refl _) _).setCell (p := ⟨_, _, none⟩) (Nat.le_refl _) _

end Go.Proofs.YtnolhcdfknjncaaDoor
