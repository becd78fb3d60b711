/-
  What is wrong with one node of a core term, third part: core.keys, core.node.
-/
import Derived.Test.YtnolhcdfknjncaaDoorR2
set_option linter.unusedVariables false
set_option linter.unusedSimpArgs false
namespace Go.Proofs.YtnolhcdfknjncaaDoor
open Go.RowKit

theorem within_true (n a b : Int) (w : World) (h : a ≤ n ∧ n ≤ b) :
    Calls Tryd.prog 83 #[.int .i64 n, .int .i64 a, .int .i64 b] w fun e w' => e = .returned (.bool true) ∧ w = w' :=
  (within_any n a b w).mono fun e w' he => ⟨by rw [he.1]; simp [h.1, h.2], he.2⟩
theorem within_false (n a b : Int) (w : World) (h : ¬ (a ≤ n ∧ n ≤ b)) :
    Calls Tryd.prog 83 #[.int .i64 n, .int .i64 a, .int .i64 b] w fun e w' => e = .returned (.bool false) ∧ w = w' :=
  (within_any n a b w).mono fun e w' he => ⟨by rw [he.1]; refine ret_bool ?_; rw [Bool.eq_false_iff]; simp; omega, he.2⟩

def NewIntsN (ks : List Int) (n : Nat) (w : World) (e : Ending) (w' : World) : Prop :=
  ∃ A c, e = .returned (.slice A (evensL (ks.take n)).length c) ∧ IntsIn w'.heap.size w' A (evensL (ks.take n)) ∧ Below w.heap.size w w'
theorem evens_at (A : Option Addr) (c : Nat) (ks : List Int) (n : Nat) (B : Nat) (w : World) (h : IntsIn B w A ks) (hB : B ≤ w.heap.size) (hn : n ≤ ks.length) :
    Calls Tryd.prog 85 #[.slice A n c] w (NewIntsN ks n w) := by
  have e : (ks.take n).length = n := by simp; omega
  have := evens_any A c (ks.take n) B w (h.take n) hB
  rw [e] at this
  exact this.mono fun e w' ⟨A', c', he, hi, _, hb⟩ => ⟨A', c', he, hi, hb⟩
theorem contains_true (A : Option Addr) (c n : Nat) (ks : List Int) (v : Int) (B : Nat) (w : World) (h : IntsIn B w A ks) (hn : n = ks.length) (hv : v ∈ ks) :
    Calls Tryd.prog 84 #[.slice A n c, .int .i64 v] w fun e w' => e = .returned (.bool true) ∧ w = w' := by
  subst hn
  exact (contains_any A c ks v B w h).mono fun e w' he => ⟨by rw [he.1]; simp [hv], he.2⟩
theorem contains_false (A : Option Addr) (c n : Nat) (ks : List Int) (v : Int) (B : Nat) (w : World) (h : IntsIn B w A ks) (hn : n = ks.length) (hv : v ∉ ks) :
    Calls Tryd.prog 84 #[.slice A n c, .int .i64 v] w fun e w' => e = .returned (.bool false) ∧ w = w' := by
  subst hn
  exact (contains_any A c ks v B w h).mono fun e w' he => ⟨by rw [he.1]; simp [hv], he.2⟩
theorem wrap_same (n : Int) (w : World) (h : wrap31 n = n) : Calls Tryd.prog 70 #[.int .i64 n] w fun e w' => e = .returned (.int .i64 n) ∧ w = w' :=
  (wrap_any n w).mono fun e w' he => ⟨by rw [he.1, h], he.2⟩

/-! ### keys -/
/-- is a key as it may not be? -/
def keyBad (k : Int) (ks : List Int) (i : Nat) : Prop :=
  (k = 6 ∧ (¬ (0 ≤ nth ks i ∧ nth ks i ≤ 65535) ∨ (i % 2 = 0 ∧ nth ks i ∈ evensL (ks.take i)))) ∨ (k = 9 ∧ (wrap31 (nth ks i) ≠ nth ks i ∨ (0 < i ∧ nth ks i ≤ nth ks (i - 1))))
instance (k : Int) (ks : List Int) (i : Nat) : Decidable (keyBad k ks i) := by unfold keyBad; infer_instance
def keysB (k : Int) (ks : List Int) : Bool := decide (∀ i, i < ks.length → ¬ keyBad k ks i)
theorem keysB_false {k : Int} {ks : List Int} {i : Nat} (h : i < ks.length) (hb : keyBad k ks i) : keysB k ks = false := by
  simp only [keysB, decide_eq_false_iff_not]; exact fun H => H i h hb
theorem keysB_true {k : Int} {ks : List Int} (h : ∀ i, i < ks.length → ¬ keyBad k ks i) : keysB k ks = true := by
  simpa only [keysB, decide_eq_true_eq] using h

theorem keyOk6 {ks : List Int} {i : Nat} (hx : 0 ≤ nth ks i ∧ nth ks i ≤ 65535) (h : ¬ (i % 2 = 0 ∧ nth ks i ∈ evensL (ks.take i))) : ¬ keyBad 6 ks i := by
  rintro (⟨_, h' | h'⟩ | ⟨h', _⟩)
  · exact h' hx
  · exact h h'
  · omega
theorem keyOk9 {ks : List Int} {i : Nat} (hx : wrap31 (nth ks i) = nth ks i) (h : ¬ (0 < i ∧ nth ks i ≤ nth ks (i - 1))) : ¬ keyBad 9 ks i := by
  rintro (⟨h', _⟩ | ⟨_, h' | h'⟩)
  · omega
  · exact h' hx
  · exact h h'
theorem keyOkN {k : Int} {ks : List Int} {i : Nat} (h6 : k ≠ 6) (h9 : k ≠ 9) : ¬ keyBad k ks i := by
  rintro (⟨h', _⟩ | ⟨h', _⟩)
  · exact h6 h'
  · exact h9 h'
theorem keys_succ {k : Int} {ks : List Int} {i : Nat} (h : ∀ j, j < i → ¬ keyBad k ks j) (hi : ¬ keyBad k ks i) : ∀ j, j < i + 1 → ¬ keyBad k ks j := fun j hj => by
  rcases Nat.lt_or_ge j i with h' | h'
  · exact h j h'
  · have : j = i := by omega
    subst this; exact hi

set_option maxRecDepth 100000 in
set_option maxHeartbeats 1600000 in
theorem keys_6 (n : Int) (A : Option Addr) (c : Nat) (ks : List Int) (cs : Value) (B : Nat) (w : World) (h : IntsIn B w A ks) (hB : B ≤ w.heap.size) (hcap : ks.length ≤ c) :
    Calls Tryd.prog 68 #[.agg #[.int .i64 6, .int .i64 n, .slice A ks.length c, cs]] w fun e w' => e = .returned (.bool (keysB 6 ks)) ∧ Below w.heap.size w w' := by
  have hl := h.1
  go_enter Tryd.func68, Tryd.ntmps68
  go_wp2_with fail
  obtain ⟨w0, hw0⟩ : ∃ w0, (w.alloc (Obj.cells #[Value.int IntKind.i64 6, Value.int IntKind.i64 n, Value.slice A ks.length c, cs] 26)) = w0 := ⟨_, rfl⟩
  have hb0 : Below w.heap.size w w0 := by rw [← hw0]; exact (Below.refl _ _).alloc (Nat.le_refl _) _
  have hs0 : w.heap.size < w0.heap.size := by rw [← hw0]; simp
  have hk0 : w0.cell? ⟨w.heap.size, 0, none⟩ = some (.int .i64 6) := by rw [← hw0, World.cell?_alloc_at _ _ _ _ rfl]; rfl
  have hk2 : w0.cell? ⟨w.heap.size, 2, none⟩ = some (.slice A ks.length c) := by rw [← hw0, World.cell?_alloc_at _ _ _ _ rfl]; rfl
  rw [hw0]
  clear hw0
  go_loopw [8] (fun i wr => ∃ k : Nat, k ≤ ks.length ∧ i = .int .i64 k ∧ (∀ j, j < k → ¬ keyBad 6 ks j) ∧ Below w0.heap.size w0 wr) (fun i _ => ks.length - (intOf i).toNat)
  case atStart => exact ⟨0, by omega, rfl, fun j hj => by omega, Below.refl _ _⟩
  case round =>
    obtain ⟨i, hi, rfl, hgood, hbel⟩ := hrel
    have H1 := Lib.hid hgood
    clear hgood
    have hc0 : wr.cell? ⟨w.heap.size, 0, none⟩ = some (.int .i64 6) := (hbel.cell (p := ⟨_, _, none⟩) hs0).trans hk0
    have hc2 : wr.cell? ⟨w.heap.size, 2, none⟩ = some (.slice A ks.length c) := (hbel.cell (p := ⟨_, _, none⟩) hs0).trans hk2
    have hin : IntsIn B wr A ks := (h.below (hb0.mono hB)).below (hbel.mono (by omega))
    have hBw : B ≤ wr.heap.size := by have := hbel.size; omega
    have hba : Below w.heap.size w wr := hb0.trans (hbel.mono (by omega))
    by_cases hlt : i < ks.length
    · obtain ⟨b, o, rfl, hb, hc⟩ := hin.at_ (by omega)
      have hck := hc i hlt
      have HC := Lib.hid hc
      clear hc
      by_cases hx : 0 ≤ nth ks i ∧ nth ks i ≤ 65535
      · by_cases h2 : i % 2 = 0
        · have e2 : ((i : Int) % 2 == 0) = true := by simp; omega
          by_cases hm : nth ks i ∈ evensL (ks.take i)
          · have hbad := Lib.hid (keysB_false (k := 6) hlt (.inl ⟨rfl, .inr ⟨h2, hm⟩⟩))
            have H2 := Lib.hid h2
            clear h2
            go_wp2_with (first | (go_at_call 83; refine (within_true _ _ _ _ hx).mono ?_; rintro e w' ⟨rfl, rfl⟩) | (go_at_call 85; refine (evens_at _ c ks i B _ hin hBw (by omega)).mono ?_; rintro e w1 ⟨A', c', rfl, hin1, hb1⟩) | (go_at_call 84; refine (contains_true _ _ _ (evensL (ks.take i)) _ _ _ hin1 rfl hm).mono ?_; rintro e w' ⟨rfl, rfl⟩))
            go_ret
            exact ⟨ret_bool hbad.out.symm, hba.trans (hb1.mono (by have := hba.size; omega))⟩
          · have hok := Lib.hid (keyOk6 hx (fun h' => hm h'.2))
            clear h2
            go_wp2_with (first | (go_at_call 83; refine (within_true _ _ _ _ hx).mono ?_; rintro e w' ⟨rfl, rfl⟩) | (go_at_call 85; refine (evens_at _ c ks i B _ hin hBw (by omega)).mono ?_; rintro e w1 ⟨A', c', rfl, hin1, hb1⟩; have hc1 : w1.cell? ⟨w.heap.size, 0, none⟩ = some (.int .i64 6) := (hb1.cell (p := ⟨_, _, none⟩) (by have := hbel.size; show w.heap.size < _; omega)).trans hc0) | (go_at_call 84; refine (contains_false _ _ _ (evensL (ks.take i)) _ _ _ hin1 rfl hm).mono ?_; rintro e w' ⟨rfl, rfl⟩))
            go_roundw
            case rel => exact ⟨i + 1, by omega, by go_num, keys_succ H1.out hok.out, hbel.trans (hb1.mono (by have := hbel.size; omega))⟩
            case measure => simp [intOf]; omega
        · have e2 : ((i : Int) % 2 == 0) = false := by simp; omega
          have hok := Lib.hid (keyOk6 hx (fun h' => h2 h'.1))
          clear h2
          go_wp2_with (first | (go_at_call 83; refine (within_true _ _ _ _ hx).mono ?_; rintro e w' ⟨rfl, rfl⟩))
          go_roundw
          case rel => exact ⟨i + 1, by omega, by go_num, keys_succ H1.out hok.out, hbel⟩
          case measure => simp [intOf]; omega
      · have hbad := Lib.hid (keysB_false (k := 6) hlt (.inl ⟨rfl, .inl hx⟩))
        go_wp2_with (first | (go_at_call 83; refine (within_false _ _ _ _ hx).mono ?_; rintro e w' ⟨rfl, rfl⟩))
        go_ret
        exact ⟨ret_bool hbad.out.symm, hba⟩
    · have hall := Lib.hid (keysB_true (k := 6) (ks := ks) (fun j hj => H1.out j (by omega)))
      go_wp2
      go_ret
      exact ⟨ret_bool hall.out.symm, hba⟩

set_option maxRecDepth 100000 in
set_option maxHeartbeats 1600000 in
theorem keys_9 (n : Int) (A : Option Addr) (c : Nat) (ks : List Int) (cs : Value) (B : Nat) (w : World) (h : IntsIn B w A ks) (hB : B ≤ w.heap.size) (hcap : ks.length ≤ c) :
    Calls Tryd.prog 68 #[.agg #[.int .i64 9, .int .i64 n, .slice A ks.length c, cs]] w fun e w' => e = .returned (.bool (keysB 9 ks)) ∧ Below w.heap.size w w' := by
  have hl := h.1
  go_enter Tryd.func68, Tryd.ntmps68
  go_wp2_with fail
  obtain ⟨w0, hw0⟩ : ∃ w0, (w.alloc (Obj.cells #[Value.int IntKind.i64 9, Value.int IntKind.i64 n, Value.slice A ks.length c, cs] 26)) = w0 := ⟨_, rfl⟩
  have hb0 : Below w.heap.size w w0 := by rw [← hw0]; exact (Below.refl _ _).alloc (Nat.le_refl _) _
  have hs0 : w.heap.size < w0.heap.size := by rw [← hw0]; simp
  have hk0 : w0.cell? ⟨w.heap.size, 0, none⟩ = some (.int .i64 9) := by rw [← hw0, World.cell?_alloc_at _ _ _ _ rfl]; rfl
  have hk2 : w0.cell? ⟨w.heap.size, 2, none⟩ = some (.slice A ks.length c) := by rw [← hw0, World.cell?_alloc_at _ _ _ _ rfl]; rfl
  rw [hw0]
  clear hw0
  go_loopw [8] (fun i wr => ∃ k : Nat, k ≤ ks.length ∧ i = .int .i64 k ∧ (∀ j, j < k → ¬ keyBad 9 ks j) ∧ Below w0.heap.size w0 wr) (fun i _ => ks.length - (intOf i).toNat)
  case atStart => exact ⟨0, by omega, rfl, fun j hj => by omega, Below.refl _ _⟩
  case round =>
    obtain ⟨i, hi, rfl, hgood, hbel⟩ := hrel
    have H1 := Lib.hid hgood
    clear hgood
    have hc0 : wr.cell? ⟨w.heap.size, 0, none⟩ = some (.int .i64 9) := (hbel.cell (p := ⟨_, _, none⟩) hs0).trans hk0
    have hc2 : wr.cell? ⟨w.heap.size, 2, none⟩ = some (.slice A ks.length c) := (hbel.cell (p := ⟨_, _, none⟩) hs0).trans hk2
    have hin : IntsIn B wr A ks := (h.below (hb0.mono hB)).below (hbel.mono (by omega))
    have hBw : B ≤ wr.heap.size := by have := hbel.size; omega
    have hba : Below w.heap.size w wr := hb0.trans (hbel.mono (by omega))
    by_cases hlt : i < ks.length
    · obtain ⟨b, o, rfl, hb, hc⟩ := hin.at_ (by omega)
      have hck := hc i hlt
      have hcp : 0 < i → wr.cell? ⟨b, o + (i - 1), none⟩ = some (.int .i64 (nth ks (i - 1))) := fun _ => hc (i - 1) (by omega)
      clear hc
      by_cases hx : wrap31 (nth ks i) = nth ks i
      · by_cases h0 : 0 < i
        · have hcq := hcp h0
          have e0 : (0 : Int) < (i : Int) := by omega
          have en : ((i : Int) - 1).toNat = i - 1 := by omega
          by_cases hm : nth ks i ≤ nth ks (i - 1)
          · have hbad := Lib.hid (keysB_false (k := 9) hlt (.inr ⟨rfl, .inr ⟨h0, hm⟩⟩))
            clear hcp
            have HX := Lib.hid hx
            clear hx
            go_wp2_with (first | (go_at_call 70; refine (wrap_same _ _ HX.out).mono ?_; rintro e w' ⟨rfl, rfl⟩))
            go_ret
            exact ⟨ret_bool hbad.out.symm, hba⟩
          · have hok := Lib.hid (keyOk9 hx (fun h' => hm h'.2))
            clear hcp
            have HX := Lib.hid hx
            clear hx
            go_wp2_with (first | (go_at_call 70; refine (wrap_same _ _ HX.out).mono ?_; rintro e w' ⟨rfl, rfl⟩))
            go_roundw
            case rel => exact ⟨i + 1, by omega, by go_num, keys_succ H1.out hok.out, hbel⟩
            case measure => simp [intOf]; omega
        · have hok := Lib.hid (keyOk9 hx (fun h' => h0 h'.1))
          have e0 : ¬ (0 : Int) < (i : Int) := by omega
          clear hcp
          have HX := Lib.hid hx
          clear hx
          go_wp2_with (first | (go_at_call 70; refine (wrap_same _ _ HX.out).mono ?_; rintro e w' ⟨rfl, rfl⟩))
          go_roundw
          case rel => exact ⟨i + 1, by omega, by go_num, keys_succ H1.out hok.out, hbel⟩
          case measure => simp [intOf]; omega
      · have hbad := Lib.hid (keysB_false (k := 9) hlt (.inr ⟨rfl, .inl hx⟩))
        have hx' : (wrap31 (nth ks i) == nth ks i) = false := by simpa using hx
        have hx'' : (wrap31 (nth ks i) != nth ks i) = true := by simpa using hx
        clear hcp
        go_wp2_with (first | (go_at_call 70; refine (wrap_any _ _).mono ?_; rintro e w' ⟨rfl, rfl⟩))
        go_ret
        exact ⟨ret_bool hbad.out.symm, hba⟩
    · have hall := Lib.hid (keysB_true (k := 9) (ks := ks) (fun j hj => H1.out j (by omega)))
      go_wp2
      go_ret
      exact ⟨ret_bool hall.out.symm, hba⟩

set_option maxRecDepth 100000 in
set_option maxHeartbeats 1600000 in
theorem keys_N (m n : Int) (A : Option Addr) (c : Nat) (ks : List Int) (cs : Value) (B : Nat) (w : World) (h : IntsIn B w A ks) (hB : B ≤ w.heap.size) (hcap : ks.length ≤ c) (h6 : m ≠ 6) (h9 : m ≠ 9) :
    Calls Tryd.prog 68 #[.agg #[.int .i64 m, .int .i64 n, .slice A ks.length c, cs]] w fun e w' => e = .returned (.bool (keysB m ks)) ∧ Below w.heap.size w w' := by
  have hl := h.1
  have e6 : (m == 6) = false := by simpa using h6
  have e9 : (m == 9) = false := by simpa using h9
  go_enter Tryd.func68, Tryd.ntmps68
  go_wp2_with fail
  obtain ⟨w0, hw0⟩ : ∃ w0, (w.alloc (Obj.cells #[Value.int IntKind.i64 m, Value.int IntKind.i64 n, Value.slice A ks.length c, cs] 26)) = w0 := ⟨_, rfl⟩
  have hb0 : Below w.heap.size w w0 := by rw [← hw0]; exact (Below.refl _ _).alloc (Nat.le_refl _) _
  have hs0 : w.heap.size < w0.heap.size := by rw [← hw0]; simp
  have hk0 : w0.cell? ⟨w.heap.size, 0, none⟩ = some (.int .i64 m) := by rw [← hw0, World.cell?_alloc_at _ _ _ _ rfl]; rfl
  have hk2 : w0.cell? ⟨w.heap.size, 2, none⟩ = some (.slice A ks.length c) := by rw [← hw0, World.cell?_alloc_at _ _ _ _ rfl]; rfl
  rw [hw0]
  clear hw0
  go_loopw [8] (fun i wr => ∃ k : Nat, k ≤ ks.length ∧ i = .int .i64 k ∧ (∀ j, j < k → ¬ keyBad m ks j) ∧ Below w0.heap.size w0 wr) (fun i _ => ks.length - (intOf i).toNat)
  case atStart => exact ⟨0, by omega, rfl, fun j hj => by omega, Below.refl _ _⟩
  case round =>
    obtain ⟨i, hi, rfl, hgood, hbel⟩ := hrel
    have H1 := Lib.hid hgood
    clear hgood
    have hc0 : wr.cell? ⟨w.heap.size, 0, none⟩ = some (.int .i64 m) := (hbel.cell (p := ⟨_, _, none⟩) hs0).trans hk0
    have hc2 : wr.cell? ⟨w.heap.size, 2, none⟩ = some (.slice A ks.length c) := (hbel.cell (p := ⟨_, _, none⟩) hs0).trans hk2
    have hin : IntsIn B wr A ks := (h.below (hb0.mono hB)).below (hbel.mono (by omega))
    have hBw : B ≤ wr.heap.size := by have := hbel.size; omega
    have hba : Below w.heap.size w wr := hb0.trans (hbel.mono (by omega))
    by_cases hlt : i < ks.length
    · obtain ⟨b, o, rfl, hb, hc⟩ := hin.at_ (by omega)
      have hck := hc i hlt
      clear hc
      have hok := Lib.hid (keyOkN (k := m) (ks := ks) (i := i) h6 h9)
      go_wp2
      go_roundw
      case rel => exact ⟨i + 1, by omega, by go_num, keys_succ H1.out hok.out, hbel⟩
      case measure => simp [intOf]; omega
    · have hall := Lib.hid (keysB_true (k := m) (ks := ks) (fun j hj => H1.out j (by omega)))
      go_wp2
      go_ret
      exact ⟨ret_bool hall.out.symm, hba⟩

theorem keys_any (m n : Int) (A : Option Addr) (c : Nat) (ks : List Int) (cs : Value) (B : Nat) (w : World) (h : IntsIn B w A ks) (hB : B ≤ w.heap.size) (hcap : ks.length ≤ c) :
    Calls Tryd.prog 68 #[.agg #[.int .i64 m, .int .i64 n, .slice A ks.length c, cs]] w fun e w' => e = .returned (.bool (keysB m ks)) ∧ Below w.heap.size w w' := by
  by_cases h6 : m = 6
  · subst h6; exact keys_6 n A c ks cs B w h hB hcap
  · by_cases h9 : m = 9
    · subst h9; exact keys_9 n A c ks cs B w h hB hcap
    · exact keys_N m n A c ks cs B w h hB hcap h6 h9

theorem counts_any (k n : Int) (Ak Ac : Option Addr) (nk ck nc cc : Nat) (w : World) (ht : TabIn w) (hg : 0 < w.heap.size) (hn1 : nk ≤ 9000000000000000000) (hn2 : nc ≤ 9000000000000000000) (h1 : 1 ≤ k) (h2 : k ≤ 10) :
    Calls Tryd.prog 67 #[.agg #[.int .i64 k, .int .i64 n, .slice Ak nk ck, .slice Ac nc cc]] w fun e w' => e = .returned (.bool (cntB k n nk nc)) ∧ Below w.heap.size w w' := by
  by_cases h : k = 6 ∨ k = 9 ∨ k = 7 ∨ k = 10
  · exact counts_rest k n Ak Ac nk ck nc cc w hn1 hn2 h
  · exact counts_tab k n Ak Ac nk ck nc cc w ht hg h1 h2 (by omega) (by omega) (by omega) (by omega)

/-! ### node -/
/-- what is wrong with a node, so many nodes standing ahead of it, at a depth -/
def nodeE (ahead depth : Int) (k n : Int) (ks : List Int) (nc : Nat) : Int :=
  if 65536 ≤ ahead then 4 else if 400 < depth then 7 else if k < 1 ∨ 10 < k then 29
  else if numE k n ≠ 0 then numE k n else if cntB k n ks.length nc = false then 19 else if keysB k ks = false then 2 else 0

set_option maxRecDepth 100000 in
set_option maxHeartbeats 1600000 in
theorem node_any (ahead depth k n : Int) (Ak Ac : Option Addr) (ck nc cc : Nat) (ks : List Int) (B : Nat) (w : World) (ht : TabIn w) (hg : 0 < w.heap.size) (h : IntsIn B w Ak ks) (hB : B ≤ w.heap.size) (hcap : ks.length ≤ ck) (hn2 : nc ≤ 9000000000000000000) :
    Calls Tryd.prog 35 #[.agg #[.int .i64 k, .int .i64 n, .slice Ak ks.length ck, .slice Ac nc cc], .int .i64 ahead, .int .i64 depth] w fun e w' => e = .returned (.int .i64 (nodeE ahead depth k n ks nc)) ∧ Below w.heap.size w w' := by
  have hl := h.1
  by_cases ha : 65536 ≤ ahead
  · have e1 : nodeE ahead depth k n ks nc = 4 := by simp [nodeE, ha]
    rw [e1]
    go_enter Tryd.func35, Tryd.ntmps35
    go_wp2_with fail
    go_ret
    exact ⟨rfl, (Below.refl _ _).alloc (Nat.le_refl _) _⟩
  by_cases hd : 400 < depth
  · have e1 : nodeE ahead depth k n ks nc = 7 := by simp [nodeE, ha, hd]
    rw [e1]
    go_enter Tryd.func35, Tryd.ntmps35
    go_wp2_with fail
    go_ret
    exact ⟨rfl, (Below.refl _ _).alloc (Nat.le_refl _) _⟩
  by_cases hk1 : k < 1
  · have e1 : nodeE ahead depth k n ks nc = 29 := by simp [nodeE, ha, hd, hk1]
    rw [e1]
    go_enter Tryd.func35, Tryd.ntmps35
    go_wp2_with fail
    go_ret
    exact ⟨rfl, (Below.refl _ _).alloc (Nat.le_refl _) _⟩
  by_cases hk2 : 10 < k
  · have e1 : nodeE ahead depth k n ks nc = 29 := by simp [nodeE, ha, hd, hk1, hk2]
    rw [e1]
    go_enter Tryd.func35, Tryd.ntmps35
    go_wp2_with fail
    go_ret
    exact ⟨rfl, (Below.refl _ _).alloc (Nat.le_refl _) _⟩
  have e1 : nodeE ahead depth k n ks nc = if numE k n ≠ 0 then numE k n else if cntB k n ks.length nc = false then 19 else if keysB k ks = false then 2 else 0 := by
    unfold nodeE; rw [if_neg ha, if_neg hd, if_neg (by omega)]
  rw [e1]
  have h1 : 1 ≤ k := by omega
  have h2 : k ≤ 10 := by omega
  have C1 := fun (w : World) => number_any k n (.slice Ak ks.length ck) (.slice Ac nc cc) w
  have C2 := fun (w : World) (ht : TabIn w) (hg : 0 < w.heap.size) => counts_any k n Ak Ac ks.length ck nc cc w ht hg (by omega) hn2 h1 h2
  have C3 := fun (w : World) (h : IntsIn B w Ak ks) (hB : B ≤ w.heap.size) => keys_any k n Ak ck ks (.slice Ac nc cc) B w h hB hcap
  obtain ⟨ne, hne⟩ : ∃ ne, numE k n = ne := ⟨_, rfl⟩
  obtain ⟨ce, hce⟩ : ∃ ce, cntB k n ks.length nc = ce := ⟨_, rfl⟩
  obtain ⟨ke, hke⟩ : ∃ ke, keysB k ks = ke := ⟨_, rfl⟩
  rw [hne, hce, hke]
  rw [hne] at C1
  rw [hce] at C2
  rw [hke] at C3
  clear hne hce hke e1 hl
  have D1 := Lib.hid C1
  have D2 := Lib.hid C2
  have D3 := Lib.hid C3
  clear C1 C2 C3
  have L1 := Lib.hid hg
  have cells : ∀ (w1 : World), Below (w.alloc (Obj.cells #[.int .i64 k, .int .i64 n, .slice Ak ks.length ck, .slice Ac nc cc] 26)).heap.size (w.alloc (Obj.cells #[.int .i64 k, .int .i64 n, .slice Ak ks.length ck, .slice Ac nc cc] 26)) w1 →
      w1.cell? ⟨w.heap.size, 0, none⟩ = some (.int .i64 k) ∧ w1.cell? ⟨w.heap.size, 1, none⟩ = some (.int .i64 n) ∧ w1.cell? ⟨w.heap.size, 2, none⟩ = some (.slice Ak ks.length ck) ∧ w1.cell? ⟨w.heap.size, 3, none⟩ = some (.slice Ac nc cc) ∧ TabIn w1 ∧ w.heap.size ≤ w1.heap.size ∧ IntsIn B w1 Ak ks ∧ Below w.heap.size w w1 := by
    intro w1 hb1
    have hb0 : Below w.heap.size w w1 := ((Below.refl _ w).alloc (Nat.le_refl _) _).trans (hb1.mono (by simp))
    refine ⟨(hb1.cell (p := ⟨_, _, none⟩) (by simp)).trans ?_, (hb1.cell (p := ⟨_, _, none⟩) (by simp)).trans ?_, (hb1.cell (p := ⟨_, _, none⟩) (by simp)).trans ?_, (hb1.cell (p := ⟨_, _, none⟩) (by simp)).trans ?_, ht.kept hg hb0, hb0.size, h.below (hb0.mono hB), hb0⟩
    all_goals rw [World.cell?_alloc_at _ _ _ _ rfl]; rfl
  have HC := Lib.hid cells
  have Hin := Lib.hid h
  have Ht := Lib.hid ht
  clear cells h ht hg
  by_cases hn0 : ne = 0
  · subst hn0
    cases ce with
    | false =>
      go_enter Tryd.func35, Tryd.ntmps35
      go_wp2_with (first | (go_at_call 66; refine (D1.out _).mono ?_; rintro e w1 ⟨rfl, hb1⟩; obtain ⟨c0, c1, c2, c3, t1, s1, i1, b1⟩ := HC.out w1 hb1; have Ht1 := Lib.hid t1; clear t1) | (go_at_call 67; refine (D2.out _ Ht1.out (by have := L1.out; omega)).mono ?_; rintro e w2 ⟨rfl, hb2⟩))
      go_ret
      exact ⟨rfl, b1.trans (hb2.mono (by omega))⟩
    | true =>
      cases ke with
      | false =>
        go_enter Tryd.func35, Tryd.ntmps35
        go_wp2_with (first | (go_at_call 66; refine (D1.out _).mono ?_; rintro e w1 ⟨rfl, hb1⟩; obtain ⟨c0, c1, c2, c3, t1, s1, i1, b1⟩ := HC.out w1 hb1; have Ht1 := Lib.hid t1; clear t1) | (go_at_call 67; refine (D2.out _ Ht1.out (by have := L1.out; omega)).mono ?_; rintro e w2 ⟨rfl, hb2⟩; obtain ⟨c20, c21, c22, c23, t2, s2, i2, b2⟩ := HC.out w2 (hb1.trans (hb2.mono hb1.size)); clear t2) | (go_at_call 68; refine (D3.out _ i2 (by omega)).mono ?_; rintro e w3 ⟨rfl, hb3⟩))
        go_ret
        exact ⟨rfl, b2.trans (hb3.mono (by omega))⟩
      | true =>
        go_enter Tryd.func35, Tryd.ntmps35
        go_wp2_with (first | (go_at_call 66; refine (D1.out _).mono ?_; rintro e w1 ⟨rfl, hb1⟩; obtain ⟨c0, c1, c2, c3, t1, s1, i1, b1⟩ := HC.out w1 hb1; have Ht1 := Lib.hid t1; clear t1) | (go_at_call 67; refine (D2.out _ Ht1.out (by have := L1.out; omega)).mono ?_; rintro e w2 ⟨rfl, hb2⟩; obtain ⟨c20, c21, c22, c23, t2, s2, i2, b2⟩ := HC.out w2 (hb1.trans (hb2.mono hb1.size)); clear t2) | (go_at_call 68; refine (D3.out _ i2 (by omega)).mono ?_; rintro e w3 ⟨rfl, hb3⟩))
        go_ret
        exact ⟨rfl, b2.trans (hb3.mono (by omega))⟩
  · have hn0' : (ne == 0) = false := by simpa using hn0
    have hn0'' : (ne != 0) = true := by simpa using hn0
    go_enter Tryd.func35, Tryd.ntmps35
    go_wp2_with (go_at_call 66; refine (D1.out _).mono ?_; rintro e w1 ⟨rfl, hb1⟩; obtain ⟨c0, c1, c2, c3, t1, s1, i1, b1⟩ := HC.out w1 hb1; have Ht1 := Lib.hid t1; clear t1)
    go_ret
    exact ⟨rfl, b1⟩

end Go.Proofs.YtnolhcdfknjncaaDoor
