/-
  12 texts of this seat in one: V1 V2 V3 V4 V5 V6 V7 V8 V9 V10 V11 V12.
-/
import Derived.Test.YtnolhcdfknjncaaDoorQE
import Derived.Deep.RegionHeld2
import Derived.Laws.OwnMore
/-
  The document's Wrap and Do: what is done with two ints.
-/
set_option linter.unusedVariables false
set_option linter.unusedSimpArgs false
namespace Go.Proofs.YtnolhcdfknjncaaDoor
open Go.RowKit

theorem tmod_lt (n : Int) : Int.tmod n 2147483648 = n - 2147483648 * (Int.tdiv n 2147483648) := by
  have := Int.tmod_add_mul_tdiv n 2147483648; omega
theorem rwrap_any (n : Int) (w : World) : Calls Tryd.prog 30 #[.int .i64 n] w fun e w' => e = .returned (.int .i64 (wrap31 n)) ∧ w = w' := by
  have h1 : Int.tmod n 2147483648 = if 0 ≤ n then n % 2147483648 else -((-n) % 2147483648) := by
    split
    · rename_i h; rw [Int.tmod_eq_emod_of_nonneg h]
    · rename_i h
      have := Int.neg_tmod (-n) 2147483648
      rw [Int.neg_neg] at this
      rw [this, Int.tmod_eq_emod_of_nonneg (by omega)]
  obtain ⟨m, hm⟩ : ∃ m, Int.tmod n 2147483648 = m := ⟨_, rfl⟩
  have hb : -2147483648 < m ∧ m < 2147483648 := by rw [← hm, h1]; split <;> omega
  have hw : wrap31 n = (if 0 ≤ m then (if 1073741824 ≤ m then m - 2147483648 else m) else (if 1073741824 ≤ m + 2147483648 then m + 2147483648 - 2147483648 else m + 2147483648)) := by
    rw [← hm, h1]; unfold wrap31
    split <;> split <;> split <;> omega
  have HW := Lib.hid hw
  clear hw h1
  have hw1 : IntKind.i64.wrap (m + 2147483648) = m + 2147483648 := by rw [IntKind.wrap_i64]; omega
  have hw2 : IntKind.i64.wrap (m - 2147483648) = m - 2147483648 := by rw [IntKind.wrap_i64]; omega
  have hw3 : IntKind.i64.wrap (m + 2147483648 - 2147483648) = m + 2147483648 - 2147483648 := by rw [IntKind.wrap_i64]; omega
  by_cases h0 : m < 0
  · by_cases h2 : 1073741824 ≤ m + 2147483648
    · have HF := Lib.hid (HW.out.trans (by rw [if_neg (by omega), if_pos h2]))
      go_enter Tryd.func30, Tryd.ntmps30
      go_wp2
      go_ret
      exact ⟨ret_int (by have := HF.out; omega), rfl⟩
    · have HF := Lib.hid (HW.out.trans (by rw [if_neg (by omega), if_neg h2]))
      go_enter Tryd.func30, Tryd.ntmps30
      go_wp2
      go_ret
      exact ⟨ret_int (by have := HF.out; omega), rfl⟩
  · by_cases h2 : 1073741824 ≤ m
    · have HF := Lib.hid (HW.out.trans (by rw [if_pos (by omega), if_pos h2]))
      go_enter Tryd.func30, Tryd.ntmps30
      go_wp2
      go_ret
      exact ⟨ret_int (by have := HF.out; omega), rfl⟩
    · have HF := Lib.hid (HW.out.trans (by rw [if_pos (by omega), if_neg h2]))
      go_enter Tryd.func30, Tryd.ntmps30
      go_wp2
      go_ret
      exact ⟨ret_int (by have := HF.out; omega), rfl⟩
theorem truth_any (b : Bool) (w : World) : Calls Tryd.prog 104 #[.bool b] w fun e w' => e = .returned (.int .i64 (if b then 1 else 0)) ∧ w = w' := by
  cases b
  all_goals
    go_enter Tryd.func104, Tryd.ntmps104
    go_wp2
    go_ret
    exact ⟨rfl, rfl⟩

set_option maxRecDepth 100000 in
set_option maxHeartbeats 1000000 in
theorem rdo_small (p a b : Int) (hp : p = 1 ∨ p = 2 ∨ p = 3) (w : World) : Calls Tryd.prog 90 #[.int .i64 p, .int .i64 a, .int .i64 b] w (DoPost p a b w) := by
  rcases hp with rfl | rfl | rfl
  all_goals
    go_enter Tryd.func90, Tryd.ntmps90
    go_wp2_with (first | (go_at_call 30; refine (rwrap_any _ _).mono ?_; rintro e w' ⟨rfl, rfl⟩) | (go_at_call 104; refine (truth_any _ _).mono ?_; rintro e w' ⟨rfl, rfl⟩))
    go_ret2
    first | exact .inl ⟨_, doP_1 a b, tup_int (by rw [wrap31_wrap64]) rfl, Below.refl _ _⟩ | exact .inl ⟨_, doP_2 a b, tup_int (by rw [wrap31_wrap64]) rfl, Below.refl _ _⟩ | exact .inl ⟨_, doP_3 a b, tup_int (by rw [wrap31_wrap64]) rfl, Below.refl _ _⟩
set_option maxRecDepth 100000 in
set_option maxHeartbeats 1000000 in
theorem rdo_div (p a b : Int) (hp : p = 4 ∨ p = 5) (w : World) : Calls Tryd.prog 90 #[.int .i64 p, .int .i64 a, .int .i64 b] w (DoPost p a b w) := by
  by_cases hb : wrap31 b = 0
  · have hd : doP p a b = none := by simp [doP, hb, hp]
    have hb' : (wrap31 b == 0) = true := by simpa using hb
    have HD := Lib.hid hd
    clear hd
    rcases hp with rfl | rfl
    all_goals
      go_enter Tryd.func90, Tryd.ntmps90
      go_wp2_with (first | (go_at_call 30; refine (rwrap_any _ _).mono ?_; rintro e w' ⟨rfl, rfl⟩) | (go_at_call 104; refine (truth_any _ _).mono ?_; rintro e w' ⟨rfl, rfl⟩))
      go_ret2
      exact .inr ⟨HD.out, rfl, Below.refl _ _⟩
  · have hb' : (wrap31 b == 0) = false := by simpa using hb
    rcases hp with rfl | rfl
    all_goals
      go_enter Tryd.func90, Tryd.ntmps90
      go_wp2_with (first | (go_at_call 30; refine (rwrap_any _ _).mono ?_; rintro e w' ⟨rfl, rfl⟩) | (go_at_call 104; refine (truth_any _ _).mono ?_; rintro e w' ⟨rfl, rfl⟩))
      go_ret2
      first | exact .inl ⟨_, doP_4 a b hb, tup_int (by first | rw [wrap31_wrap64] | rfl) rfl, Below.refl _ _⟩ | exact .inl ⟨_, doP_5 a b hb, tup_int (by first | rw [wrap31_wrap64] | rfl) rfl, Below.refl _ _⟩
theorem if_bool (c : Prop) [Decidable c] : (if decide c = true then (1 : Int) else 0) = wrap31 (if c then 1 else 0) := by
  by_cases h : c <;> simp [h, wrap31]
theorem if_beq (x y : Int) : (if (x == y) = true then (1 : Int) else 0) = wrap31 (if x = y then 1 else 0) := by
  by_cases h : x = y <;> simp [h, wrap31]
theorem if_bne (x y : Int) : (if (x != y) = true then (1 : Int) else 0) = wrap31 (if x ≠ y then 1 else 0) := by
  by_cases h : x = y <;> simp [h, wrap31]
set_option maxRecDepth 100000 in
set_option maxHeartbeats 2000000 in
theorem rdo_cmp (p a b : Int) (hp : p = 6 ∨ p = 7 ∨ p = 8 ∨ p = 9) (w : World) : Calls Tryd.prog 90 #[.int .i64 p, .int .i64 a, .int .i64 b] w (DoPost p a b w) := by
  have HT := Lib.hid truth_any
  rcases hp with rfl | rfl | rfl | rfl
  all_goals
    go_enter Tryd.func90, Tryd.ntmps90
    go_wp2_with (first | (go_at_call 30; refine (rwrap_any _ _).mono ?_; rintro e w' ⟨rfl, rfl⟩) | (go_at_call 104; refine (truth_any _ _).mono ?_; rintro e w' ⟨rfl, rfl⟩))
    all_goals
      go_ret2
      first
        | exact .inl ⟨_, doP_6 a b, tup_int (by first | exact if_beq _ _ | simp_all [wrap31]) rfl, Below.refl _ _⟩
        | exact .inl ⟨_, doP_7 a b, tup_int (by first | exact if_bne _ _ | simp_all [wrap31]) rfl, Below.refl _ _⟩
        | exact .inl ⟨_, doP_8 a b, tup_int (by first | exact if_bool _ | (rw [if_pos (by omega)]; rfl) | (rw [if_neg (by omega)]; rfl)) rfl, Below.refl _ _⟩
        | exact .inl ⟨_, doP_9 a b, tup_int (by first | exact if_bool _ | (rw [if_pos (by omega)]; rfl) | (rw [if_neg (by omega)]; rfl)) rfl, Below.refl _ _⟩

theorem rdo_any (p a b : Int) (h1 : 1 ≤ p) (h2 : p ≤ 9) (w : World) : Calls Tryd.prog 90 #[.int .i64 p, .int .i64 a, .int .i64 b] w (DoPost p a b w) := by
  by_cases h3 : p = 1 ∨ p = 2 ∨ p = 3
  · exact rdo_small p a b h3 w
  by_cases h4 : p = 4 ∨ p = 5
  · exact rdo_div p a b h4 w
  exact rdo_cmp p a b (by omega) w
end Go.Proofs.YtnolhcdfknjncaaDoor

/-
  The document's runs of terms in memory: values, what is known, functions.
-/
set_option linter.unusedVariables false
set_option linter.unusedSimpArgs false
namespace Go.Proofs.YtnolhcdfknjncaaDoor
open Go.RowKit

/-- the blocks that a run turns: its own two -/
def Own2 (mb cb : Nat) (k : Nat) : Prop := k = mb ∨ k = cb
theorem _root_.Go.Proofs.YtnolhcdfknjncaaDoor.KpX.mono {X Y : Nat → Prop} {W W' : World} (h : KpX X W W') (hs : ∀ k, X k → Y k) : KpX Y W W' := ⟨h.size, fun i o hi hc hx => h.same i o hi hc (fun e => hx (hs i e))⟩
/-- a step of a run: what is old lies as it lay, but for the run's own two blocks -/
structure Stp (B mb cb : Nat) (W W' : World) : Prop where
  bel : Below B W W'
  kp : KpX (Own2 mb cb) W W'
section
variable {B mb cb : Nat} {W W' W2 : World}
theorem Stp.refl (W : World) : Stp B mb cb W W := ⟨Below.refl _ _, KpX.refl _ _⟩
theorem Stp.trans (h : Stp B mb cb W W') (k : Stp B mb cb W' W2) : Stp B mb cb W W2 := ⟨h.bel.trans k.bel, h.kp.trans k.kp⟩
theorem Stp.alloc (W : World) (hB : B ≤ W.heap.size) (o : Obj) : Stp B mb cb W (W.alloc o) := ⟨(Below.refl _ _).alloc hB o, KpX.alloc _ _ _⟩
theorem Stp.set (W : World) {b : Nat} (hb : Own2 mb cb b) (hB : B ≤ b) (i : Nat) (x : Value) : Stp B mb cb W (W.setCell ⟨b, i, none⟩ x) := ⟨(Below.refl _ _).setCell (p := ⟨b, i, none⟩) hB x, KpX.setCell W i x hb⟩
theorem KpX.setNew {X : Nat → Prop} {W W' : World} (h : KpX X W W') {b : Nat} (hb : W.heap.size ≤ b) (i : Nat) (x : Value) : KpX X W (W'.setCell ⟨b, i, none⟩ x) :=
  ⟨by simpa [World.setCell] using h.size, fun k o hk hc hx => (Below.heap_setCell W' ⟨b, i, none⟩ x k (by
    have := (Array.getElem?_eq_some_iff.1 hk).1
    show k ≠ b; omega)).trans (h.same k o hk hc hx)⟩
theorem Stp.setNew (h : Stp B mb cb W W') {b : Nat} (hb : W.heap.size ≤ b) (hB : B ≤ W.heap.size) (i : Nat) (x : Value) : Stp B mb cb W (W'.setCell ⟨b, i, none⟩ x) :=
  ⟨h.bel.trans ((Below.refl _ _).setCell (p := ⟨b, i, none⟩) (by show B ≤ b; omega) x), h.kp.setNew hb i x⟩
/-- a box behind a step -/
theorem box_at {X : Nat → Prop} {W W' : World} (h : KpX X W W') {b : Nat} {x y z : Value} {T : TypeId} (hb : W.heap[b]? = some (.cells #[x, y, z] T (0, 0))) (hx : ¬ X b) : W'.cell? ⟨b, 0, none⟩ = some x ∧ W'.cell? ⟨b, 1, none⟩ = some y ∧ W'.cell? ⟨b, 2, none⟩ = some z ∧ (∀ i, W'.frozen? ⟨b, i, none⟩ = false) := by
  have h2 := h.same b _ hb rfl hx
  exact ⟨by simp [World.cell?, h2], by simp [World.cell?, h2], by simp [World.cell?, h2], fun i => by simp [World.frozen?, h2]⟩
theorem Stp.below (h : Below W.heap.size W W') (hB : B ≤ W.heap.size) : Stp B mb cb W W' := ⟨h.mono hB, KpX.below h⟩
end

/-- a value in memory: its three cells; so many functions and cells there are -/
inductive VIn (X : Nat → Prop) (nf nc : Nat) (w : World) : PV → Value → Value → Value → Prop
  | int (n : Int) : VIn X nf nc w (.int n) (.int .i64 1) (.int .i64 n) (.slice none 0 0)
  | fn (i : Nat) (h : i < nf) : VIn X nf nc w (.fn i) (.int .i64 3) (.int .i64 (i : Int)) (.slice none 0 0)
  | ref (i : Nat) (h : i < nc) : VIn X nf nc w (.ref i) (.int .i64 4) (.int .i64 (i : Int)) (.slice none 0 0)
  | blk (t : Int) (ks : List PV) (A : Option Addr) (c : Nat) (b o : Nat) (G0 G1 G2 : Nat → Value) (hl : ks.length ≤ c) (hb : ks.length ≤ 1000000) (hA : 0 < ks.length → A = some ⟨b, o, none⟩ ∧ ¬ X b)
      (c0 : ∀ i, i < ks.length → w.cell? ⟨b, o + i * 3, none⟩ = some (G0 i)) (c1 : ∀ i, i < ks.length → w.cell? ⟨b, o + i * 3 + 1, none⟩ = some (G1 i)) (c2 : ∀ i, i < ks.length → w.cell? ⟨b, o + i * 3 + 2, none⟩ = some (G2 i))
      (hsub : ∀ i (h : i < ks.length), VIn X nf nc w ks[i] (G0 i) (G1 i) (G2 i)) :
      VIn X nf nc w (.blk t ks) (.int .i64 2) (.int .i64 t) (.slice A ks.length c)
section
variable {X : Nat → Prop} {nf nc nf' nc' : Nat} {w w' : World}
theorem VIn.step {v : PV} {a b c : Value} (h : VIn X nf nc w v a b c) (hk : KpX X w w') (hf : nf ≤ nf') (hc : nc ≤ nc') : VIn X nf' nc' w' v a b c := by
  induction h with
  | int n => exact .int n
  | fn i h => exact .fn i (by omega)
  | ref i h => exact .ref i (by omega)
  | blk t ks A c b o G0 G1 G2 hl hb hA c0 c1 c2 hsub ih =>
    exact .blk t ks A c b o G0 G1 G2 hl hb hA (fun i hi => hk.cell (c0 i hi) (hA (by omega)).2) (fun i hi => hk.cell (c1 i hi) (hA (by omega)).2) (fun i hi => hk.cell (c2 i hi) (hA (by omega)).2) ih
theorem VIn.shape {v : PV} {a b c : Value} (h : VIn X nf nc w v a b c) : ∃ k n A l d, a = .int .i64 k ∧ b = .int .i64 n ∧ c = .slice A l d := by
  cases h <;> exact ⟨_, _, _, _, _, rfl, rfl, rfl⟩

theorem lt_of_cell {w : World} {b o : Nat} {v : Value} (h : w.cell? ⟨b, o, none⟩ = some v) : b < w.heap.size := by
  rcases Nat.lt_or_ge b w.heap.size with h1 | h1
  · exact h1
  · rw [World.cell?, Array.getElem?_eq_none h1] at h; cases h
/-- other blocks are turned, or blocks that are new -/
theorem VIn.more {Y : Nat → Prop} {v : PV} {a b c : Value} (h : VIn X nf nc w v a b c) (hs : ∀ k, Y k → X k ∨ w.heap.size ≤ k) : VIn Y nf nc w v a b c := by
  induction h with
  | int n => exact .int n
  | fn i h => exact .fn i h
  | ref i h => exact .ref i h
  | blk t ks A c b o G0 G1 G2 hl hb hA c0 c1 c2 hsub ih =>
    refine .blk t ks A c b o G0 G1 G2 hl hb (fun h0 => ⟨(hA h0).1, fun hy => ?_⟩) c0 c1 c2 ih
    rcases hs b hy with h | h
    · exact (hA h0).2 h
    · have := lt_of_cell (c0 0 h0); omega
/-- a row of values in memory -/
def VRow (X : Nat → Prop) (nf nc : Nat) (w : World) (A : Option Addr) (ks : List PV) : Prop :=
  ks = [] ∨ ∃ (b o : Nat) (G0 G1 G2 : Nat → Value), A = some ⟨b, o, none⟩ ∧ ¬ X b ∧ (∀ i, i < ks.length → w.cell? ⟨b, o + i * 3, none⟩ = some (G0 i)) ∧ (∀ i, i < ks.length → w.cell? ⟨b, o + i * 3 + 1, none⟩ = some (G1 i)) ∧ (∀ i, i < ks.length → w.cell? ⟨b, o + i * 3 + 2, none⟩ = some (G2 i)) ∧
    ∀ i (h : i < ks.length), VIn X nf nc w ks[i] (G0 i) (G1 i) (G2 i)
theorem VRow.step {A : Option Addr} {ks : List PV} (h : VRow X nf nc w A ks) (hk : KpX X w w') (hf : nf ≤ nf') (hc : nc ≤ nc') : VRow X nf' nc' w' A ks := by
  rcases h with h | ⟨b, o, G0, G1, G2, hA, hx, c0, c1, c2, hs⟩
  · exact .inl h
  · exact .inr ⟨b, o, G0, G1, G2, hA, hx, fun i hi => hk.cell (c0 i hi) hx, fun i hi => hk.cell (c1 i hi) hx, fun i hi => hk.cell (c2 i hi) hx, fun i hi => (hs i hi).step hk hf hc⟩
theorem VRow.more {Y : Nat → Prop} {A : Option Addr} {ks : List PV} (h : VRow X nf nc w A ks) (hs : ∀ k, Y k → X k ∨ w.heap.size ≤ k) : VRow Y nf nc w A ks := by
  rcases h with h | ⟨b, o, G0, G1, G2, hA, hx, c0, c1, c2, hsub⟩
  · exact .inl h
  · rcases Nat.eq_zero_or_pos ks.length with h0 | h0
    · exact .inl (List.eq_nil_of_length_eq_zero h0)
    refine .inr ⟨b, o, G0, G1, G2, hA, fun hy => ?_, c0, c1, c2, fun i hi => (hsub i hi).more hs⟩
    rcases hs b hy with h | h
    · exact hx h
    · have := lt_of_cell (c0 0 h0); omega
theorem VRow.at_ {A : Option Addr} {ks : List PV} (h : VRow X nf nc w A ks) {i : Nat} (hi : i < ks.length) : ∃ b o a0 a1 a2, A = some ⟨b, o, none⟩ ∧ w.cell? ⟨b, o + i * 3, none⟩ = some a0 ∧ w.cell? ⟨b, o + i * 3 + 1, none⟩ = some a1 ∧ w.cell? ⟨b, o + i * 3 + 2, none⟩ = some a2 ∧ VIn X nf nc w ks[i] a0 a1 a2 := by
  rcases h with h | ⟨b, o, G0, G1, G2, hA, hx, c0, c1, c2, hs⟩
  · subst h; simp at hi
  · exact ⟨b, o, G0 i, G1 i, G2 i, hA, c0 i hi, c1 i hi, c2 i hi, hs i hi⟩
theorem VIn.row {t : Int} {ks : List PV} {a b c : Value} (h : VIn X nf nc w (.blk t ks) a b c) : ∃ A d, a = .int .i64 2 ∧ b = .int .i64 t ∧ c = .slice A ks.length d ∧ ks.length ≤ d ∧ ks.length ≤ 1000000 ∧ VRow X nf nc w A ks := by
  cases h with
  | blk t ks A c b o G0 G1 G2 hl hb hA c0 c1 c2 hsub =>
    refine ⟨A, c, rfl, rfl, rfl, hl, hb, ?_⟩
    by_cases h0 : 0 < ks.length
    · exact .inr ⟨b, o, G0, G1, G2, (hA h0).1, (hA h0).2, c0, c1, c2, hsub⟩
    · exact .inl (List.eq_nil_of_length_eq_zero (by omega))
theorem VRow.val {t : Int} {ks : List PV} {A : Option Addr} {d : Nat} (h : VRow X nf nc w A ks) (hd : ks.length ≤ d) (hb : ks.length ≤ 1000000) : VIn X nf nc w (.blk t ks) (.int .i64 2) (.int .i64 t) (.slice A ks.length d) := by
  rcases h with h | ⟨b, o, G0, G1, G2, hA, hx, c0, c1, c2, hs⟩
  · subst h
    exact .blk t [] A d 0 0 (fun _ => .nilIface) (fun _ => .nilIface) (fun _ => .nilIface) hd (by simp) (by simp) (by simp) (by simp) (by simp) (by intro i h; simp at h)
  · exact .blk t ks A d b o G0 G1 G2 hd hb (fun _ => ⟨hA, hx⟩) c0 c1 c2 hs

/-- what is known, in memory -/
inductive EIn (X : Nat → Prop) (nf nc : Nat) (w : World) : PEnv → Value → Prop
  | nil : EIn X nf nc w [] (.pointer none)
  | cons (x : Int) (v : PV) (e : PEnv) (b : Nat) (a0 a1 a2 up : Value) (hx : ¬ X b) (c0 : w.cell? ⟨b, 0, none⟩ = some (.int .i64 x)) (c1 : w.cell? ⟨b, 1, none⟩ = some a0) (c2 : w.cell? ⟨b, 2, none⟩ = some a1) (c3 : w.cell? ⟨b, 3, none⟩ = some a2) (c4 : w.cell? ⟨b, 4, none⟩ = some up)
      (hv : VIn X nf nc w v a0 a1 a2) (he : EIn X nf nc w e up) : EIn X nf nc w ((x, v) :: e) (.pointer (some ⟨b, 0, none⟩))
theorem EIn.step {e : PEnv} {p : Value} (h : EIn X nf nc w e p) (hk : KpX X w w') (hf : nf ≤ nf') (hc : nc ≤ nc') : EIn X nf' nc' w' e p := by
  induction h with
  | nil => exact .nil
  | cons x v e b a0 a1 a2 up hx c0 c1 c2 c3 c4 hv he ih => exact .cons x v e b a0 a1 a2 up hx (hk.cell c0 hx) (hk.cell c1 hx) (hk.cell c2 hx) (hk.cell c3 hx) (hk.cell c4 hx) (hv.step hk hf hc) ih
theorem EIn.more {Y : Nat → Prop} {e : PEnv} {p : Value} (h : EIn X nf nc w e p) (hs : ∀ k, Y k → X k ∨ w.heap.size ≤ k) : EIn Y nf nc w e p := by
  induction h with
  | nil => exact .nil
  | cons x v e b a0 a1 a2 up hx c0 c1 c2 c3 c4 hv he ih =>
    refine .cons x v e b a0 a1 a2 up (fun hy => ?_) c0 c1 c2 c3 c4 (hv.more hs) ih
    rcases hs b hy with h | h
    · exact hx h
    · have := lt_of_cell c0; omega
theorem EIn.shape {e : PEnv} {p : Value} (h : EIn X nf nc w e p) : ∃ q, p = .pointer q := by
  cases h <;> exact ⟨_, rfl⟩
end
end Go.Proofs.YtnolhcdfknjncaaDoor

/-
  The document's runs of terms in memory: a run's state.
-/
set_option linter.unusedVariables false
set_option linter.unusedSimpArgs false
namespace Go.Proofs.YtnolhcdfknjncaaDoor
open Go.RowKit

/-- a term that may be a function's body in a run -/
inductive SmallT : Core → Prop
  | mk {t : Core} : nodeOk t → t.ks.length ≤ 1000 → (∀ c ∈ t.cs, SmallT c) → SmallT t
theorem SmallT.node {t : Core} (h : SmallT t) : nodeOk t := by cases h; assumption
theorem SmallT.keys {t : Core} (h : SmallT t) : t.ks.length ≤ 1000 := by cases h; assumption
theorem SmallT.kid {t : Core} (h : SmallT t) {c : Core} (hc : c ∈ t.cs) : SmallT c := by cases h with | mk _ _ h => exact h c hc
/-- a row of functions in memory -/
def FRow (B : Nat) (X : Nat → Prop) (nf nc : Nat) (w : World) (A : Option Addr) (fs : List PFn) : Prop :=
  fs = [] ∨ ∃ (b o : Nat) (G1 G2 G3 G4 G5 : Nat → Value), A = some ⟨b, o, none⟩ ∧ ¬ X b ∧ (∀ i (h : i < fs.length), w.cell? ⟨b, o + i * 6, none⟩ = some (.int .i64 fs[i].param)) ∧ (∀ i, i < fs.length → w.cell? ⟨b, o + i * 6 + 1, none⟩ = some (G1 i)) ∧ (∀ i, i < fs.length → w.cell? ⟨b, o + i * 6 + 2, none⟩ = some (G2 i)) ∧
    (∀ i, i < fs.length → w.cell? ⟨b, o + i * 6 + 3, none⟩ = some (G3 i)) ∧ (∀ i, i < fs.length → w.cell? ⟨b, o + i * 6 + 4, none⟩ = some (G4 i)) ∧ (∀ i, i < fs.length → w.cell? ⟨b, o + i * 6 + 5, none⟩ = some (G5 i)) ∧
    ∀ i (h : i < fs.length), CoreIn B w fs[i].body #[G1 i, G2 i, G3 i, G4 i] ∧ SmallT fs[i].body ∧ EIn X nf nc w fs[i].env (G5 i)
/-- a row of ints that a run made -/
def ORow (B : Nat) (X : Nat → Prop) (w : World) (A : Option Addr) (ks : List Int) : Prop :=
  (∀ a, A = some a → B ≤ a.block) ∧ (ks = [] ∨ ∃ b o, A = some ⟨b, o, none⟩ ∧ ¬ X b ∧ ∀ j, j < ks.length → w.cell? ⟨b, o + j, none⟩ = some (.int .i64 (nth ks j)))
section
variable {B mb cb : Nat} {X : Nat → Prop} {nf nc nf' nc' : Nat} {w w' : World}
theorem FRow.step {A : Option Addr} {fs : List PFn} (h : FRow B X nf nc w A fs) (hk : KpX X w w') (hb : Below B w w') (hf : nf ≤ nf') (hc : nc ≤ nc') : FRow B X nf' nc' w' A fs := by
  rcases h with h | ⟨b, o, G1, G2, G3, G4, G5, hA, hx, c0, c1, c2, c3, c4, c5, hs⟩
  · exact .inl h
  · exact .inr ⟨b, o, G1, G2, G3, G4, G5, hA, hx, fun i hi => hk.cell (c0 i hi) hx, fun i hi => hk.cell (c1 i hi) hx, fun i hi => hk.cell (c2 i hi) hx, fun i hi => hk.cell (c3 i hi) hx, fun i hi => hk.cell (c4 i hi) hx, fun i hi => hk.cell (c5 i hi) hx,
      fun i hi => ⟨(hs i hi).1.kept hb, (hs i hi).2.1, (hs i hi).2.2.step hk hf hc⟩⟩
theorem FRow.more {Y : Nat → Prop} {A : Option Addr} {fs : List PFn} (h : FRow B X nf nc w A fs) (hs : ∀ k, Y k → X k ∨ w.heap.size ≤ k) : FRow B Y nf nc w A fs := by
  rcases h with h | ⟨b, o, G1, G2, G3, G4, G5, hA, hx, c0, c1, c2, c3, c4, c5, hsub⟩
  · exact .inl h
  · rcases Nat.eq_zero_or_pos fs.length with h0 | h0
    · exact .inl (List.eq_nil_of_length_eq_zero h0)
    refine .inr ⟨b, o, G1, G2, G3, G4, G5, hA, fun hy => ?_, c0, c1, c2, c3, c4, c5, fun i hi => ⟨(hsub i hi).1, (hsub i hi).2.1, (hsub i hi).2.2.more hs⟩⟩
    rcases hs b hy with h | h
    · exact hx h
    · have := lt_of_cell (c0 0 h0); omega
theorem ORow.more {Y : Nat → Prop} {A : Option Addr} {ks : List Int} (h : ORow B X w A ks) (hs : ∀ k, Y k → X k ∨ w.heap.size ≤ k) : ORow B Y w A ks := by
  refine ⟨h.1, ?_⟩
  rcases h.2 with h2 | ⟨b, o, hA, hx, hc⟩
  · exact .inl h2
  · rcases Nat.eq_zero_or_pos ks.length with h0 | h0
    · exact .inl (List.eq_nil_of_length_eq_zero h0)
    refine .inr ⟨b, o, hA, fun hy => ?_, hc⟩
    rcases hs b hy with h | h
    · exact hx h
    · have := lt_of_cell (hc 0 h0); omega
theorem FRow.at_ {A : Option Addr} {fs : List PFn} (h : FRow B X nf nc w A fs) {i : Nat} (hi : i < fs.length) : ∃ b o a1 a2 a3 a4 a5, A = some ⟨b, o, none⟩ ∧ w.cell? ⟨b, o + i * 6, none⟩ = some (.int .i64 fs[i].param) ∧ w.cell? ⟨b, o + i * 6 + 1, none⟩ = some a1 ∧ w.cell? ⟨b, o + i * 6 + 2, none⟩ = some a2 ∧
    w.cell? ⟨b, o + i * 6 + 3, none⟩ = some a3 ∧ w.cell? ⟨b, o + i * 6 + 4, none⟩ = some a4 ∧ w.cell? ⟨b, o + i * 6 + 5, none⟩ = some a5 ∧ CoreIn B w fs[i].body #[a1, a2, a3, a4] ∧ SmallT fs[i].body ∧ EIn X nf nc w fs[i].env a5 := by
  rcases h with h | ⟨b, o, G1, G2, G3, G4, G5, hA, hx, c0, c1, c2, c3, c4, c5, hs⟩
  · subst h; simp at hi
  · exact ⟨b, o, _, _, _, _, _, hA, c0 i hi, c1 i hi, c2 i hi, c3 i hi, c4 i hi, c5 i hi, (hs i hi).1, (hs i hi).2.1, (hs i hi).2.2⟩
theorem ORow.step {A : Option Addr} {ks : List Int} (h : ORow B X w A ks) (hk : KpX X w w') : ORow B X w' A ks :=
  ⟨h.1, h.2.imp id (fun ⟨b, o, hA, hx, hc⟩ => ⟨b, o, hA, hx, fun j hj => hk.cell (hc j hj) hx⟩)⟩
end

/-- a run's fuel, and how much of all it may have made -/
structure FL where
  f : Nat
  lim : Nat
/-- one more of each -/
abbrev FL.up (fuel : FL) : FL := ⟨fuel.f, fuel.lim + 1⟩
/-- what a run's own two blocks hold -/
structure RIn (X : Nat → Prop) (B mb cb : Nat) (inp : List Int) (fuel : FL) (s : St) (cut stk rai : Bool) (x0 x1 x2 : Value) (W : World) : Prop where
  hmb : B ≤ mb
  hcb : B ≤ cb
  hne : mb ≠ cb
  hX : ∀ k, Own2 mb cb k → X k
  m : ∃ Ai ci Ao co Ac cc, W.heap[mb]? = some (.cells #[.slice Ai inp.length ci, .int .i64 (s.asked : Int), .int .i64 (fuel.f : Int), .int .i64 ((fuel.f : Int) - (s.left : Int)), .slice Ao s.out.length co, .slice Ac s.cells.length cc, .bool cut, .bool stk, .bool rai, x0, x1, x2] 73 (0, 0)) ∧
    IntsIn B W Ai inp ∧ inp.length ≤ ci ∧ s.out.length ≤ co ∧ s.cells.length ≤ cc ∧ ORow B X W Ao s.out ∧ VRow X s.fns.length s.cells.length W Ac s.cells
  c : ∃ Af cf, W.heap[cb]? = some (.cells #[.pointer (some ⟨mb, 0, none⟩), .slice Af s.fns.length cf] 61 (0, 0)) ∧ s.fns.length ≤ cf ∧ FRow B X s.fns.length s.cells.length W Af s.fns
  left : s.left ≤ fuel.f
  fuelB : fuel.f ≤ 1000000
  limB : fuel.lim ≤ fuel.f
  inpB : inp.length ≤ 4096
  askB : s.asked + s.left ≤ fuel.lim
  outB : s.out.length + s.left ≤ fuel.lim
  celB : s.cells.length + s.left ≤ fuel.lim
  fnsB : s.fns.length + 1000 * s.left ≤ 1000 * fuel.lim
section
variable {X : Nat → Prop} {B mb cb : Nat} {inp : List Int} {fuel : FL} {s : St} {cut stk rai : Bool} {x0 x1 x2 : Value} {W W' : World}
theorem own_lt (h : RIn X B mb cb inp fuel s cut stk rai x0 x1 x2 W) : mb < W.heap.size ∧ cb < W.heap.size := by
  obtain ⟨_, _, _, _, _, _, h1, _⟩ := h.m
  obtain ⟨_, _, h2, _⟩ := h.c
  exact ⟨(Array.getElem?_eq_some_iff.1 h1).1, (Array.getElem?_eq_some_iff.1 h2).1⟩
/-- more may be made -/
theorem RIn.lim_ {l : Nat} (h : RIn X B mb cb inp fuel s cut stk rai x0 x1 x2 W) (h1 : fuel.lim ≤ l) (h2 : l ≤ fuel.f) : RIn X B mb cb inp ⟨fuel.f, l⟩ s cut stk rai x0 x1 x2 W := by
  have := h.askB
  have := h.outB
  have := h.celB
  have := h.fnsB
  exact { h with
    limB := h2
    askB := by show _ ≤ l; omega
    outB := by show _ ≤ l; omega
    celB := by show _ ≤ l; omega
    fnsB := by show _ ≤ 1000 * l; omega }
theorem RIn.more {Y : Nat → Prop} (h : RIn X B mb cb inp fuel s cut stk rai x0 x1 x2 W) (hs : ∀ k, Y k → X k ∨ W.heap.size ≤ k) (hY : ∀ k, Own2 mb cb k → Y k) : RIn Y B mb cb inp fuel s cut stk rai x0 x1 x2 W := by
  obtain ⟨Ai, ci, Ao, co, Ac, cc, h1, h2, h3, h4, h5, h6, h7⟩ := h.m
  obtain ⟨Af, cf, k1, k2, k3⟩ := h.c
  exact { h with
    hX := hY
    m := ⟨Ai, ci, Ao, co, Ac, cc, h1, h2, h3, h4, h5, h6.more hs, h7.more hs⟩
    c := ⟨Af, cf, k1, k2, k3.more hs⟩ }
/-- a hidden block that is not the run's own is set -/
theorem RIn.hid_ {b : Nat} (h : RIn X B mb cb inp fuel s cut stk rai x0 x1 x2 W) (hb : X b) (hB : B ≤ b) (h1 : b ≠ mb) (h2 : b ≠ cb) (i : Nat) (x : Value) : RIn X B mb cb inp fuel s cut stk rai x0 x1 x2 (W.setCell ⟨b, i, none⟩ x) := by
  obtain ⟨Ai, ci, Ao, co, Ac, cc, h1', h2', h3, h4, h5, h6, h7⟩ := h.m
  obtain ⟨Af, cf, k1, k2, k3⟩ := h.c
  have hk : KpX X W (W.setCell ⟨b, i, none⟩ x) := KpX.setCell W i x hb
  have hbel : Below B W (W.setCell ⟨b, i, none⟩ x) := (Below.refl _ _).setCell (p := ⟨b, i, none⟩) hB x
  exact { h with
    m := ⟨Ai, ci, Ao, co, Ac, cc, (Below.heap_setCell W ⟨b, i, none⟩ x mb (Ne.symm h1)).trans h1', h2'.below hbel, h3, h4, h5, h6.step hk, h7.step hk (Nat.le_refl _) (Nat.le_refl _)⟩
    c := ⟨Af, cf, (Below.heap_setCell W ⟨b, i, none⟩ x cb (Ne.symm h2)).trans k1, k2, k3.step hk hbel (Nat.le_refl _) (Nat.le_refl _)⟩ }
/-- behind what leaves all that was -/
theorem RIn.below (h : RIn X B mb cb inp fuel s cut stk rai x0 x1 x2 W) (hb : Below W.heap.size W W') : RIn X B mb cb inp fuel s cut stk rai x0 x1 x2 W' := by
  obtain ⟨l1, l2⟩ := own_lt h
  have hB : B ≤ W.heap.size := by have := h.hmb; omega
  have hk : KpX X W W' := KpX.below hb
  obtain ⟨Ai, ci, Ao, co, Ac, cc, h1, h2, h3, h4, h5, h6, h7⟩ := h.m
  obtain ⟨Af, cf, k1, k2, k3⟩ := h.c
  exact { h with
    m := ⟨Ai, ci, Ao, co, Ac, cc, (hb.block mb l1).trans h1, h2.below (hb.mono hB), h3, h4, h5, h6.step hk, h7.step hk (Nat.le_refl _) (Nat.le_refl _)⟩
    c := ⟨Af, cf, (hb.block cb l2).trans k1, k2, k3.step hk (hb.mono hB) (Nat.le_refl _) (Nat.le_refl _)⟩ }
end
end Go.Proofs.YtnolhcdfknjncaaDoor

/-
  The document's run: a step, an end.
-/
set_option linter.unusedVariables false
set_option linter.unusedSimpArgs false
namespace Go.Proofs.YtnolhcdfknjncaaDoor
open Go.RowKit

section
variable {X : Nat → Prop} {B mb cb : Nat} {inp : List Int} {fuel : FL} {s : St} {cut stk rai : Bool} {x0 x1 x2 : Value} {W W' : World}
/-- the run's block, read -/
theorem RIn.cells (h : RIn X B mb cb inp fuel s cut stk rai x0 x1 x2 W) : W.cell? ⟨mb, 1, none⟩ = some (.int .i64 (s.asked : Int)) ∧ W.cell? ⟨mb, 2, none⟩ = some (.int .i64 (fuel.f : Int)) ∧ W.cell? ⟨mb, 3, none⟩ = some (.int .i64 ((fuel.f : Int) - (s.left : Int))) ∧
    W.cell? ⟨mb, 6, none⟩ = some (.bool cut) ∧ W.cell? ⟨mb, 7, none⟩ = some (.bool stk) ∧ W.cell? ⟨mb, 8, none⟩ = some (.bool rai) ∧ W.cell? ⟨mb, 9, none⟩ = some x0 ∧ W.cell? ⟨mb, 10, none⟩ = some x1 ∧ W.cell? ⟨mb, 11, none⟩ = some x2 ∧ (∀ i, W.frozen? ⟨mb, i, none⟩ = false) ∧ W.cell? ⟨cb, 0, none⟩ = some (.pointer (some ⟨mb, 0, none⟩)) := by
  obtain ⟨Ai, ci, Ao, co, Ac, cc, h1, -⟩ := h.m
  obtain ⟨Af, cf, h2, -⟩ := h.c
  exact ⟨by simp [World.cell?, h1], by simp [World.cell?, h1], by simp [World.cell?, h1], by simp [World.cell?, h1], by simp [World.cell?, h1], by simp [World.cell?, h1], by simp [World.cell?, h1], by simp [World.cell?, h1], by simp [World.cell?, h1], fun i => by simp [World.frozen?, h1], by simp [World.cell?, h2]⟩
/-- one cell of the run's block is set -/
theorem RIn.set (h : RIn X B mb cb inp fuel s cut stk rai x0 x1 x2 W) (i : Nat) (x : Value) : Stp B mb cb W (W.setCell ⟨mb, i, none⟩ x) := Stp.set W (.inl rfl) h.hmb i x
/-- the run's block turned by one set: what it then holds -/
theorem RIn.turn {s' : St} {cut' stk' rai' : Bool} {y0 y1 y2 : Value} (h : RIn X B mb cb inp fuel s cut stk rai x0 x1 x2 W) (hst : Stp B mb cb W W') (hcb : W'.heap[cb]? = W.heap[cb]?)
    (hm : ∀ Ai ci Ao co Ac cc, W.heap[mb]? = some (.cells #[.slice Ai inp.length ci, .int .i64 (s.asked : Int), .int .i64 (fuel.f : Int), .int .i64 ((fuel.f : Int) - (s.left : Int)), .slice Ao s.out.length co, .slice Ac s.cells.length cc, .bool cut, .bool stk, .bool rai, x0, x1, x2] 73 (0, 0)) →
      W'.heap[mb]? = some (.cells #[.slice Ai inp.length ci, .int .i64 (s'.asked : Int), .int .i64 (fuel.f : Int), .int .i64 ((fuel.f : Int) - (s'.left : Int)), .slice Ao s.out.length co, .slice Ac s.cells.length cc, .bool cut', .bool stk', .bool rai', y0, y1, y2] 73 (0, 0)))
    (ho : s'.out = s.out) (hc : s'.cells = s.cells) (hf : s'.fns = s.fns) (hl : s'.left ≤ s.left) (hal : s'.asked + s'.left ≤ fuel.lim) : RIn X B mb cb inp fuel s' cut' stk' rai' y0 y1 y2 W' := by
  obtain ⟨Ai, ci, Ao, co, Ac, cc, h1, h2, h3, h4, h5, h6, h7⟩ := h.m
  obtain ⟨Af, cf, k1, k2, k3⟩ := h.c
  have := h.left
  have := h.askB
  have := h.outB
  have := h.celB
  have := h.fnsB
  have hkx : KpX X W W' := hst.kp.mono h.hX
  refine ⟨h.hmb, h.hcb, h.hne, h.hX, ⟨Ai, ci, Ao, co, Ac, cc, ?_, h2.below hst.bel, h3, ?_, ?_, ?_, ?_⟩, ⟨Af, cf, ?_, ?_, ?_⟩, by omega, h.fuelB, h.limB, h.inpB, by omega, ?_, ?_, ?_⟩
  · rw [ho, hc]; exact hm _ _ _ _ _ _ h1
  · rw [ho]; exact h4
  · rw [hc]; exact h5
  · rw [ho]; exact h6.step hkx
  · rw [hf, hc]; exact h7.step hkx (Nat.le_refl _) (Nat.le_refl _)
  · rw [hf, hcb]; exact k1
  · rw [hf]; exact k2
  · rw [hf, hc]; exact k3.step hkx hst.bel (Nat.le_refl _) (Nat.le_refl _)
  · rw [ho]; omega
  · rw [hc]; omega
  · rw [hf]; omega
theorem RIn.cut_ (h : RIn X B mb cb inp fuel s false stk rai x0 x1 x2 W) : RIn X B mb cb inp fuel s true stk rai x0 x1 x2 (W.setCell ⟨mb, 6, none⟩ (.bool true)) :=
  h.turn (h.set 6 _) (heap_set_ne (Ne.symm h.hne) _ _) (fun Ai ci Ao co Ac cc h1 => by rw [heap_set_self h1 6 _]; rfl) rfl rfl rfl (Nat.le_refl _) h.askB
theorem RIn.stuck_ (h : RIn X B mb cb inp fuel s cut stk rai x0 x1 x2 W) : RIn X B mb cb inp fuel s cut true rai x0 x1 x2 (W.setCell ⟨mb, 7, none⟩ (.bool true)) :=
  h.turn (h.set 7 _) (heap_set_ne (Ne.symm h.hne) _ _) (fun Ai ci Ao co Ac cc h1 => by rw [heap_set_self h1 7 _]; rfl) rfl rfl rfl (Nat.le_refl _) h.askB
theorem RIn.step_ (h : RIn X B mb cb inp fuel s cut stk rai x0 x1 x2 W) (hl : s.left ≠ 0) : RIn X B mb cb inp ⟨fuel.f, fuel.lim - 1⟩ { s with left := s.left - 1 } cut stk rai x0 x1 x2 (W.setCell ⟨mb, 3, none⟩ (.int .i64 ((fuel.f : Int) - (s.left : Int) + 1))) := by
  have h2 : RIn X B mb cb inp fuel { s with left := s.left - 1 } cut stk rai x0 x1 x2 (W.setCell ⟨mb, 3, none⟩ (.int .i64 ((fuel.f : Int) - (s.left : Int) + 1))) :=
    h.turn (h.set 3 _) (heap_set_ne (Ne.symm h.hne) _ _) (fun Ai ci Ao co Ac cc h1 => by
      rw [heap_set_self h1 3 _]
      have : (fuel.f : Int) - (s.left : Int) + 1 = (fuel.f : Int) - ((s.left - 1 : Nat) : Int) := by omega
      rw [this]; rfl) rfl rfl rfl (Nat.sub_le _ _) (by have := h.askB; show s.asked + (s.left - 1) ≤ _; omega)
  have := h.askB
  have := h.outB
  have := h.celB
  have := h.fnsB
  have := h.limB
  exact { h2 with
    limB := by show fuel.lim - 1 ≤ fuel.f; omega
    askB := by show s.asked + (s.left - 1) ≤ fuel.lim - 1; omega
    outB := by show s.out.length + (s.left - 1) ≤ fuel.lim - 1; omega
    celB := by show s.cells.length + (s.left - 1) ≤ fuel.lim - 1; omega
    fnsB := by show s.fns.length + 1000 * (s.left - 1) ≤ 1000 * (fuel.lim - 1); omega }

/-! ### Int, Step, Stop, Off -/
theorem vint_any (n : Int) (w : World) : Calls Tryd.prog 47 #[.int .i64 n] w fun e w' => e = .returned (.agg #[.int .i64 1, .int .i64 n, .slice none 0 0]) ∧ Below w.heap.size w w' := by
  go_enter Tryd.func47, Tryd.ntmps47
  go_wp2_with fail
  have hb : Below w.heap.size w (w.alloc (.cells #[.int .i64 1, .int .i64 n, .slice none 0 0] 65)) := (Below.refl _ _).alloc (Nat.le_refl _) _
  exact bodyPost_ret (v := .agg #[.int .i64 1, .int .i64 n, .slice none 0 0]) (by simp [results, Tryd.results47, go_sem]) rfl ⟨rfl, hb⟩

/-- the flags and what was raised as a run goes on -/
abbrev RGo (X : Nat → Prop) (B mb cb : Nat) (inp : List Int) (fuel : FL) (s : St) (W : World) : Prop := RIn X B mb cb inp fuel s false false false (.int .i64 0) (.int .i64 0) (.slice none 0 0) W
def StepPost (X : Nat → Prop) (B mb cb : Nat) (inp : List Int) (fuel : FL) (s : St) (W : World) (e : Ending) (W' : World) : Prop :=
  Stp B mb cb W W' ∧ ((s.left = 0 ∧ e = .returned (.bool false) ∧ RIn X B mb cb inp fuel s true false false (.int .i64 0) (.int .i64 0) (.slice none 0 0) W') ∨ (s.left ≠ 0 ∧ e = .returned (.bool true) ∧ RGo X B mb cb inp ⟨fuel.f, fuel.lim - 1⟩ { s with left := s.left - 1 } W'))
theorem rstep_any (h : RGo X B mb cb inp fuel s W) : Calls Tryd.prog 44 #[.pointer (some ⟨mb, 0, none⟩)] W (StepPost X B mb cb inp fuel s W) := by
  obtain ⟨m1, m2, m3, m6, m7, m8, m9, m10, m11, mf, mc⟩ := h.cells
  have hfb := h.fuelB
  have hl := h.left
  have hBW : B ≤ W.heap.size := by have := h.hmb; have := (own_lt h).1; omega
  by_cases h0 : s.left = 0
  · have HP := Lib.hid (fun (k : Nat) => (show StepPost X B mb cb inp fuel s W (.returned (.bool false)) ((W.drewN k).setCell ⟨mb, 6, none⟩ (.bool true)) from ⟨(Stp.below (below_drewN (Below.refl _ _) k) hBW).trans ((h.below (below_drewN (Below.refl _ _) k)).set 6 _), .inl ⟨h0, rfl, (h.below (below_drewN (Below.refl _ _) k)).cut_⟩⟩))
    have hge : (fuel.f : Int) ≤ (fuel.f : Int) - (s.left : Int) := by omega
    clear h h0
    go_enter Tryd.func44, Tryd.ntmps44
    go_wp2_with fail
    go_quiet (fail)
    go_wp2_with fail
    go_ret
    exact HP.out _
  · have HP := Lib.hid (fun (k : Nat) => (show StepPost X B mb cb inp fuel s W (.returned (.bool true)) ((W.drewN k).setCell ⟨mb, 3, none⟩ (.int .i64 ((fuel.f : Int) - (s.left : Int) + 1))) from ⟨(Stp.below (below_drewN (Below.refl _ _) k) hBW).trans ((h.below (below_drewN (Below.refl _ _) k)).set 3 _), .inr ⟨h0, rfl, (h.below (below_drewN (Below.refl _ _) k)).step_ h0⟩⟩))
    have hge : ¬ (fuel.f : Int) ≤ (fuel.f : Int) - (s.left : Int) := by omega
    have hw : IntKind.i64.wrap ((fuel.f : Int) - (s.left : Int) + 1) = (fuel.f : Int) - (s.left : Int) + 1 := by rw [IntKind.wrap_i64]; omega
    clear h h0
    go_enter Tryd.func44, Tryd.ntmps44
    go_wp2_with fail
    go_quiet (fail)
    go_wp2_with fail
    go_ret
    exact HP.out _
end
end Go.Proofs.YtnolhcdfknjncaaDoor

/-
  The document's run: Stop, Off, Key.
-/
set_option linter.unusedVariables false
set_option linter.unusedSimpArgs false
namespace Go.Proofs.YtnolhcdfknjncaaDoor
open Go.RowKit

section
variable {X : Nat → Prop} {B mb cb : Nat} {inp : List Int} {fuel : FL} {s : St} {cut stk rai : Bool} {x0 x1 x2 : Value} {W W' : World}
theorem RIn.hBW (h : RIn X B mb cb inp fuel s cut stk rai x0 x1 x2 W) : B ≤ W.heap.size := by have := h.hmb; have := (own_lt h).1; omega
abbrev zeroV : Value := .agg #[.int .i64 0, .int .i64 0, .slice none 0 0]
def StopPost (X : Nat → Prop) (B mb cb : Nat) (inp : List Int) (fuel : FL) (s : St) (cut rai : Bool) (x0 x1 x2 : Value) (W : World) (e : Ending) (W' : World) : Prop :=
  Stp B mb cb W W' ∧ e = .returned zeroV ∧ RIn X B mb cb inp fuel s cut true rai x0 x1 x2 W'
set_option maxRecDepth 100000 in
theorem rstop_any (h : RIn X B mb cb inp fuel s cut stk rai x0 x1 x2 W) : Calls Tryd.prog 46 #[.pointer (some ⟨mb, 0, none⟩)] W (StopPost X B mb cb inp fuel s cut rai x0 x1 x2 W) := by
  obtain ⟨m1, m2, m3, m6, m7, m8, m9, m10, m11, mf, mc⟩ := h.cells
  have hlt := (own_lt h).1
  have hb : Below W.heap.size W (W.alloc (.cells #[.int .i64 0, .int .i64 0, .slice none 0 0] 65)) := (Below.refl _ _).alloc (Nat.le_refl _) _
  have HP := Lib.hid (show StopPost X B mb cb inp fuel s cut rai x0 x1 x2 W (.returned zeroV) ((W.setCell ⟨mb, 7, none⟩ (.bool true)).alloc (.cells #[.int .i64 0, .int .i64 0, .slice none 0 0] 65)) from by
    have h2 := h.stuck_
    have hb2 : Below (W.setCell ⟨mb, 7, none⟩ (.bool true)).heap.size (W.setCell ⟨mb, 7, none⟩ (.bool true)) ((W.setCell ⟨mb, 7, none⟩ (.bool true)).alloc (.cells #[.int .i64 0, .int .i64 0, .slice none 0 0] 65)) := (Below.refl _ _).alloc (Nat.le_refl _) _
    exact ⟨(h.set 7 _).trans (Stp.below hb2 h2.hBW), rfl, h2.below hb2⟩)
  clear h hb
  go_enter Tryd.func46, Tryd.ntmps46
  go_wp2_with fail
  exact bodyPost_ret (v := zeroV) (by simp [results, Tryd.results46, go_sem, zeroV]) rfl HP.out

theorem roff_any (h : RIn X B mb cb inp fuel s cut stk rai x0 x1 x2 W) : Calls Tryd.prog 50 #[.pointer (some ⟨mb, 0, none⟩)] W fun e w' => e = .returned (.bool (cut || stk || rai)) ∧ W = w' := by
  obtain ⟨m1, m2, m3, m6, m7, m8, m9, m10, m11, mf, mc⟩ := h.cells
  clear h
  cases cut <;> cases stk
  all_goals
    go_enter Tryd.func50, Tryd.ntmps50
    go_wp2_with fail
    go_ret
    exact ⟨rfl, rfl⟩
/-- a value's key -/
theorem rkey_any {X : Nat → Prop} {nf nc : Nat} {w0 : World} {v : PV} {a b c : Value} (hv : VIn X nf nc w0 v a b c) (w : World) : Calls Tryd.prog 51 #[.agg #[a, b, c]] w fun e w' => (∃ k, keyOf v = some k ∧ e = .returned (.tuple #[.int .i64 k, .bool true]) ∧ Below w.heap.size w w') ∨ (keyOf v = none ∧ e = .returned (.tuple #[.int .i64 0, .bool false]) ∧ Below w.heap.size w w') := by
  cases hv with
  | int n =>
    go_enter Tryd.func51, Tryd.ntmps51
    go_wp2_with fail
    go_ret2
    exact .inl ⟨n, rfl, rfl, (Below.refl _ _).alloc (Nat.le_refl _) _⟩
  | fn i hi =>
    go_enter Tryd.func51, Tryd.ntmps51
    go_wp2_with fail
    go_ret2
    exact .inr ⟨rfl, rfl, (Below.refl _ _).alloc (Nat.le_refl _) _⟩
  | ref i hi =>
    go_enter Tryd.func51, Tryd.ntmps51
    go_wp2_with fail
    go_ret2
    exact .inr ⟨rfl, rfl, (Below.refl _ _).alloc (Nat.le_refl _) _⟩
  | blk t ks A d b o G0 G1 G2 hl hb hA c0 c1 c2 hsub =>
    clear hl hb hA c0 c1 c2 hsub
    generalize hk : ks.length = kl
    go_enter Tryd.func51, Tryd.ntmps51
    go_wp2_with fail
    go_ret2
    exact .inl ⟨t, rfl, rfl, (Below.refl _ _).alloc (Nat.le_refl _) _⟩
end
end Go.Proofs.YtnolhcdfknjncaaDoor

/-
  The document's run: which, Find, Field.
-/
set_option linter.unusedVariables false
set_option linter.unusedSimpArgs false
namespace Go.Proofs.YtnolhcdfknjncaaDoor
open Go.RowKit

theorem which_at {ks : List Int} {key : Int} {j : Nat} (hj : j < ks.length) (h : ∀ k, k < j → nth ks k ≠ key) (he : nth ks j = key) : whichAt ks key = j + 1 := by
  have : ks.findIdx? (· == key) = some j := by
    rw [List.findIdx?_eq_some_iff_getElem]
    refine ⟨hj, by rw [← nth_eq ks hj]; simpa using he, fun k hk => ?_⟩
    have := h k hk
    rw [nth_eq ks (by omega)] at this
    simpa using this
  simp [whichAt, this]
theorem which_no {ks : List Int} {key : Int} (h : ∀ k, k < ks.length → nth ks k ≠ key) : whichAt ks key = 0 := by
  have : ks.findIdx? (· == key) = none := by
    rw [List.findIdx?_eq_none_iff]
    intro x hx
    obtain ⟨k, hk, rfl⟩ := List.getElem_of_mem hx
    have := h k hk
    rw [nth_eq ks hk] at this
    simpa using this
  simp [whichAt, this]
set_option maxRecDepth 100000 in
set_option maxHeartbeats 1000000 in
theorem rwhich_any (A : Option Addr) (c : Nat) (ks : List Int) (key : Int) (B : Nat) (w : World) (h : IntsIn B w A ks) :
    Calls Tryd.prog 52 #[.slice A ks.length c, .int .i64 key] w fun e w' => e = .returned (.int .i64 (whichAt ks key : Int)) ∧ w = w' := by
  have hl := h.1
  go_enter Tryd.func52, Tryd.ntmps52
  go_wp2_with fail
  go_loopw [5] (fun i wr => ∃ j : Nat, j ≤ ks.length ∧ i = .int .i64 (j : Int) ∧ Hid (∀ k, k < j → nth ks k ≠ key) ∧ w = wr) (fun i _ => ks.length - (intOf i).toNat)
  case atStart => exact ⟨0, by omega, rfl, Lib.hid (fun k hk => by omega), rfl⟩
  case round =>
    obtain ⟨j, hj, rfl, HN, rfl⟩ := hrel
    by_cases hlt : j < ks.length
    · obtain ⟨b, o, rfl, hb, hc⟩ := h.at_ (by omega)
      have hcj := hc j hlt
      clear hc
      have hj0 : (0 : Int) ≤ (j : Int) := by omega
      have hjl : (j : Int) < (ks.length : Int) := by omega
      by_cases hx : nth ks j = key
      · have hxb : (nth ks j == key) = true := by simpa using hx
        have HF := Lib.hid (which_at hlt HN.out hx)
        clear hx
        generalize nth ks j = x at *
        go_wp2_with fail
        go_ret
        exact ⟨ret_int (by rw [HF.out]; push_cast; rfl), rfl⟩
      · have hxb : (nth ks j == key) = false := by simpa using hx
        have HN2 := Lib.hid (show ∀ k, k < j + 1 → nth ks k ≠ key from fun k hk => by
          rcases Nat.lt_or_ge k j with h' | h'
          · exact HN.out k h'
          · obtain rfl : k = j := by omega
            exact hx)
        clear hx
        generalize nth ks j = x at *
        go_wp2_with fail
        go_roundw
        case rel => exact ⟨j + 1, by omega, by go_num, HN2, trivial⟩
        case measure => simp [intOf]; omega
    · have hjl : ¬ (j : Int) < (ks.length : Int) := by omega
      have HF := Lib.hid (which_no (ks := ks) (key := key) (fun k hk => HN.out k (by omega)))
      go_wp2_with fail
      go_ret
      exact ⟨ret_int (by rw [HF.out]; rfl), rfl⟩

/-- what is known of a variable -/
def FPost (X : Nat → Prop) (nf nc : Nat) (W : World) (o : Option PV) (e : Ending) (W' : World) : Prop :=
  Below W.heap.size W W' ∧ ((∃ v a b c, o = some v ∧ e = .returned (.tuple #[.agg #[a, b, c], .bool true]) ∧ VIn X nf nc W' v a b c) ∨ (o = none ∧ e = .returned (.tuple #[zeroV, .bool false])))
set_option maxRecDepth 100000 in
set_option maxHeartbeats 1000000 in
theorem rfind_any {X : Nat → Prop} {nf nc : Nat} {W : World} {env : PEnv} {p : Value} (h : EIn X nf nc W env p) (x : Int) : Calls Tryd.prog 45 #[p, .int .i64 x] W (FPost X nf nc W (lookup env x)) := by
  obtain ⟨pq, rfl⟩ := h.shape
  have hb : Below W.heap.size W (W.alloc (.cells #[.int .i64 0, .int .i64 0, .slice none 0 0] 65)) := (Below.refl _ _).alloc (Nat.le_refl _) _
  have HB := Lib.hid hb
  have HE := Lib.hid h
  clear h hb
  go_enter Tryd.func45, Tryd.ntmps45
  go_wp2_with fail
  go_loopg [0] env.length (fun k p wr => (W.alloc (.cells #[.int .i64 0, .int .i64 0, .slice none 0 0] 65)) = wr ∧ ∃ e' : PEnv, EIn X nf nc W e' p ∧ e'.length = k ∧ Hid (lookup env x = lookup e' x))
  case atStart => exact ⟨rfl, env, HE.out, rfl, Lib.hid rfl⟩
  case round =>
    obtain ⟨rfl, e', he, hk, HL⟩ := hrel
    have HK := Lib.hid hk
    clear hk
    cases he with
    | nil =>
      go_wp2_with fail
      exact bodyPost_ret (v := .tuple #[zeroV, .bool false]) (by simp [results, Tryd.results45, go_sem, zeroV]) rfl ⟨HB.out, .inr ⟨HL.out, rfl⟩⟩
    | cons y v e b a0 a1 a2 up hx c0 c1 c2 c3 c4 hv he =>
      obtain ⟨kk, nn, A, l, d, rfl, rfl, rfl⟩ := hv.shape
      obtain ⟨uq, rfl⟩ := he.shape
      have d0 := cell_behind HB.out c0
      have d1 := cell_behind HB.out c1
      have d2 := cell_behind HB.out c2
      have d3 := cell_behind HB.out c3
      have d4 := cell_behind HB.out c4
      clear c0 c1 c2 c3 c4
      by_cases hyx : y = x
      · have hx' : (y == x) = true := by simpa using hyx
        have hx2 : (y != x) = false := by simpa using hyx
        have hb3 : Below W.heap.size W (W.alloc (.cells #[.int .i64 kk, .int .i64 nn, .slice A l d] 65)) := (Below.refl _ _).alloc (Nat.le_refl _) _
        have HP := Lib.hid (show FPost X nf nc W (lookup env x) (.returned (.tuple #[.agg #[.int .i64 kk, .int .i64 nn, .slice A l d], .bool true])) (W.alloc (.cells #[.int .i64 kk, .int .i64 nn, .slice A l d] 65)) from
          ⟨hb3, .inl ⟨v, _, _, _, HL.out.trans ((lookup_cons x y v e).trans (if_pos hyx)), rfl, hv.step (KpX.below hb3) (Nat.le_refl _) (Nat.le_refl _)⟩⟩)
        clear hv he HL hyx hb3
        go_wp2_with fail
        exact bodyPost_ret (v := .tuple #[.agg #[.int .i64 kk, .int .i64 nn, .slice A l d], .bool true]) (by simp [results, Tryd.results45, go_sem]) rfl HP.out
      · have hx' : (y == x) = false := by simpa using hyx
        have hx2 : (y != x) = true := by simpa using hyx
        have hl2 := Lib.hid (HL.out.trans ((lookup_cons x y v e).trans (if_neg hyx)))
        clear hyx
        go_wp2_with fail
        go_roundg e.length
        case measure => have := HK.out; simp at this; omega
        case rel => exact ⟨rfl, e, he, rfl, hl2⟩
end Go.Proofs.YtnolhcdfknjncaaDoor

/-
  The document's run: Field, Raise, Caught.
-/
set_option linter.unusedVariables false
set_option linter.unusedSimpArgs false
namespace Go.Proofs.YtnolhcdfknjncaaDoor
open Go.RowKit

section
variable {X Y : Nat → Prop} {B mb cb : Nat} {inp : List Int} {fuel : FL} {s s1 : St} {cut stk rai : Bool} {x0 x1 x2 : Value} {W W' W1 W2 : World} {o : Out}
/-- how a part of a run ends in memory -/
def OutIn (X : Nat → Prop) (B mb cb : Nat) (inp : List Int) (fuel : FL) (W : World) (a b c : Value) : Out → Prop
  | (.val v, s) => RGo X B mb cb inp fuel s W ∧ VIn X s.fns.length s.cells.length W v a b c
  | (.raised v, s) => ∃ y0 y1 y2, RIn X B mb cb inp fuel s false false true y0 y1 y2 W ∧ VIn X s.fns.length s.cells.length W v y0 y1 y2 ∧ ∃ k, keyOf v = some k
  | (.stuck, s) => RIn X B mb cb inp fuel s false true false (.int .i64 0) (.int .i64 0) (.slice none 0 0) W
  | (.cut, s) => RIn X B mb cb inp fuel s true false false (.int .i64 0) (.int .i64 0) (.slice none 0 0) W
theorem OutIn.more {a b c : Value} (h : OutIn X B mb cb inp fuel W a b c o) (hs : ∀ k, Y k → X k ∨ W.heap.size ≤ k) (hY : ∀ k, Own2 mb cb k → Y k) : OutIn Y B mb cb inp fuel W a b c o := by
  obtain ⟨r, s⟩ := o
  cases r with
  | val v => exact ⟨h.1.more hs hY, h.2.more hs⟩
  | raised v => obtain ⟨y0, y1, y2, h1, h2, h3⟩ := h; exact ⟨y0, y1, y2, h1.more hs hY, h2.more hs, h3⟩
  | stuck => exact RIn.more h hs hY
  | cut => exact RIn.more h hs hY
theorem OutIn.hid_ {a b c : Value} {p : Nat} (h : OutIn X B mb cb inp fuel W a b c o) (hp : X p) (hB : B ≤ p) (h1 : p ≠ mb) (h2 : p ≠ cb) (i : Nat) (x : Value) : OutIn X B mb cb inp fuel (W.setCell ⟨p, i, none⟩ x) a b c o := by
  obtain ⟨r, s⟩ := o
  have hk : KpX X W (W.setCell ⟨p, i, none⟩ x) := KpX.setCell W i x hp
  cases r with
  | val v => exact ⟨h.1.hid_ hp hB h1 h2 i x, h.2.step hk (Nat.le_refl _) (Nat.le_refl _)⟩
  | raised v => obtain ⟨y0, y1, y2, g1, g2, g3⟩ := h; exact ⟨y0, y1, y2, g1.hid_ hp hB h1 h2 i x, g2.step hk (Nat.le_refl _) (Nat.le_refl _), g3⟩
  | stuck => exact RIn.hid_ h hp hB h1 h2 i x
  | cut => exact RIn.hid_ h hp hB h1 h2 i x
theorem OutIn.below {a b c : Value} (h : OutIn X B mb cb inp fuel W a b c o) (hb : Below W.heap.size W W') : OutIn X B mb cb inp fuel W' a b c o := by
  obtain ⟨r, s⟩ := o
  cases r with
  | val v => exact ⟨h.1.below hb, h.2.step (KpX.below hb) (Nat.le_refl _) (Nat.le_refl _)⟩
  | raised v => obtain ⟨y0, y1, y2, g1, g2, g3⟩ := h; exact ⟨y0, y1, y2, g1.below hb, g2.step (KpX.below hb) (Nat.le_refl _) (Nat.le_refl _), g3⟩
  | stuck => exact RIn.below h hb
  | cut => exact RIn.below h hb
def ROut (X : Nat → Prop) (B mb cb : Nat) (inp : List Int) (fuel : FL) (s : St) (o : Out) (W : World) (e : Ending) (W' : World) : Prop :=
  Stp B mb cb W W' ∧ (s.fns.length ≤ o.2.fns.length ∧ s.cells.length ≤ o.2.cells.length) ∧ ∃ k n A l d, e = .returned (.agg #[.int .i64 k, .int .i64 n, .slice A l d]) ∧ OutIn X B mb cb inp fuel W' (.int .i64 k) (.int .i64 n) (.slice A l d) o
/-- with a frame's box hidden -/
def Bx (X : Nat → Prop) (b : Nat) (k : Nat) : Prop := X k ∨ k = b
theorem RIn.bx {b : Nat} (h : RIn X B mb cb inp fuel s cut stk rai x0 x1 x2 W) (hb : W.heap.size ≤ b) : RIn (Bx X b) B mb cb inp fuel s cut stk rai x0 x1 x2 W :=
  h.more (fun k hk => hk.imp id (fun e => by omega)) (fun k hk => .inl (h.hX k hk))
theorem VIn.bx {nf nc b : Nat} {v : PV} {y0 y1 y2 : Value} (h : VIn X nf nc W v y0 y1 y2) (hb : W.heap.size ≤ b) : VIn (Bx X b) nf nc W v y0 y1 y2 :=
  h.more (fun k hk => hk.imp id (fun e => by omega))
theorem VRow.bx {nf nc b : Nat} {A : Option Addr} {l : List PV} (h : VRow X nf nc W A l) (hb : W.heap.size ≤ b) : VRow (Bx X b) nf nc W A l :=
  h.more (fun k hk => hk.imp id (fun e => by omega))
theorem EIn.bx {nf nc b : Nat} {e : PEnv} {p : Value} (h : EIn X nf nc W e p) (hb : W.heap.size ≤ b) : EIn (Bx X b) nf nc W e p :=
  h.more (fun k hk => hk.imp id (fun e => by omega))
/-- what a frame hands on lies as it lies without the frame -/
theorem ROut.from_ {e : Ending} (hX : ∀ k, Own2 mb cb k → X k) (h1 : Stp B mb cb W W1) (hs : s.fns.length ≤ s1.fns.length ∧ s.cells.length ≤ s1.cells.length) (h : ROut X B mb cb inp fuel s1 o W1 e W2) : ROut X B mb cb inp fuel s o W e W2 :=
  ⟨h1.trans h.1, ⟨Nat.le_trans hs.1 h.2.1.1, Nat.le_trans hs.2 h.2.1.2⟩, h.2.2⟩
/-- the result's box is set and handed back -/
theorem ROut.box {b : Nat} {z0 z1 z2 : Value} {T : TypeId} {e : Ending} (hX : ∀ k, Own2 mb cb k → X k) (hB : B ≤ W.heap.size) (hm : mb < W.heap.size ∧ cb < W.heap.size) (hb : W.heap.size ≤ b) (hb1 : W1.heap[b]? = some (.cells #[z0, z1, z2] T (0, 0)))
    (h1 : Stp B mb cb W W1) (hs : s.fns.length ≤ s1.fns.length ∧ s.cells.length ≤ s1.cells.length) (h : ROut (Bx X b) B mb cb inp fuel s1 o W1 e W2) :
    ∃ k n A l d, e = .returned (.agg #[.int .i64 k, .int .i64 n, .slice A l d]) ∧ (W2.cell? ⟨b, 0, none⟩ = some z0 ∧ W2.cell? ⟨b, 1, none⟩ = some z1 ∧ W2.cell? ⟨b, 2, none⟩ = some z2 ∧ (∀ i, W2.frozen? ⟨b, i, none⟩ = false)) ∧
      ROut X B mb cb inp fuel s o W (.returned (.agg #[.int .i64 k, .int .i64 n, .slice A l d])) (((W2.setCell ⟨b, 0, none⟩ (.int .i64 k)).setCell ⟨b, 1, none⟩ (.int .i64 n)).setCell ⟨b, 2, none⟩ (.slice A l d)) := by
  obtain ⟨hst, hmo, k, n, A, l, d, rfl, ho⟩ := h
  have e1 : b ≠ mb := by omega
  have e2 : b ≠ cb := by omega
  have e3 : B ≤ b := by omega
  have hno : ¬ Own2 mb cb b := fun h => by rcases h with h | h <;> omega
  refine ⟨k, n, A, l, d, rfl, box_at hst.kp hb1 hno, ?_⟩
  have h2 := h1.trans hst
  refine ⟨((h2.setNew hb hB 0 _).setNew hb hB 1 _).setNew hb hB 2 _, ⟨Nat.le_trans hs.1 hmo.1, Nat.le_trans hs.2 hmo.2⟩, k, n, A, l, d, rfl, ?_⟩
  exact (((ho.hid_ (.inr rfl) e3 e1 e2 0 _).hid_ (.inr rfl) e3 e1 e2 1 _).hid_ (.inr rfl) e3 e1 e2 2 _).more (fun k hk => .inl (.inl hk)) hX
theorem ROut.box' {b : Nat} {z0 z1 z2 : Value} {T : TypeId} {k n : Int} {A : Option Addr} {l d : Nat} (hX : ∀ k, Own2 mb cb k → X k) (hB : B ≤ W.heap.size) (hm : mb < W.heap.size ∧ cb < W.heap.size) (hb : W.heap.size ≤ b) (hb1 : W1.heap[b]? = some (.cells #[z0, z1, z2] T (0, 0)))
    (h1 : Stp B mb cb W W1) (hs : s.fns.length ≤ s1.fns.length ∧ s.cells.length ≤ s1.cells.length) (h : ROut (Bx X b) B mb cb inp fuel s1 o W1 (.returned (.agg #[.int .i64 k, .int .i64 n, .slice A l d])) W2) :
    (W2.cell? ⟨b, 0, none⟩ = some z0 ∧ W2.cell? ⟨b, 1, none⟩ = some z1 ∧ W2.cell? ⟨b, 2, none⟩ = some z2 ∧ (∀ i, W2.frozen? ⟨b, i, none⟩ = false)) ∧
      ROut X B mb cb inp fuel s o W (.returned (.agg #[.int .i64 k, .int .i64 n, .slice A l d])) (((W2.setCell ⟨b, 0, none⟩ (.int .i64 k)).setCell ⟨b, 1, none⟩ (.int .i64 n)).setCell ⟨b, 2, none⟩ (.slice A l d)) := by
  obtain ⟨k', n', A', l', d', he, hc, hr⟩ := ROut.box hX hB hm hb hb1 h1 hs h
  simp only [Ending.returned.injEq, Value.agg.injEq, Array.mk.injEq, List.cons.injEq, Value.int.injEq, Value.slice.injEq, true_and, and_true] at he
  obtain ⟨rfl, rfl, rfl, rfl, rfl⟩ := he
  exact ⟨hc, hr⟩
theorem ROut.stop {e : Ending} (hp : StopPost X B mb cb inp fuel s false false (.int .i64 0) (.int .i64 0) (.slice none 0 0) W e W2) : ROut X B mb cb inp fuel s (.stuck, s) W e W2 :=
  ⟨hp.1, ⟨Nat.le_refl _, Nat.le_refl _⟩, 0, 0, none, 0, 0, hp.2.1, hp.2.2⟩

theorem new1 (W : World) (o1 : Obj) : (W.alloc o1).heap[W.heap.size]? = some o1 := World.alloc_heap_new _ _
theorem new2 (W : World) (o1 o2 : Obj) : ((W.alloc o1).alloc o2).heap[W.heap.size + 1]? = some o2 := by
  have := World.alloc_heap_new (W.alloc o1) o2
  simpa using this
theorem new3 (W : World) (o1 o2 o3 : Obj) : (((W.alloc o1).alloc o2).alloc o3).heap[W.heap.size + 1 + 1]? = some o3 := by
  have := World.alloc_heap_new ((W.alloc o1).alloc o2) o3
  simpa using this
def fieldO (v : PV) (n : Int) (s : St) : Out := match v with | .blk _ l => if n < l.length then (.val (l[n.toNat]?.getD default), s) else (.stuck, s) | _ => (.stuck, s)
set_option maxRecDepth 100000 in
set_option maxHeartbeats 1000000 in
theorem rfield_any (h : RGo X B mb cb inp fuel s W) {v : PV} {a b c : Value} (hv : VIn X s.fns.length s.cells.length W v a b c) (n : Int) (hn : 0 ≤ n) :
    Calls Tryd.prog 74 #[.pointer (some ⟨mb, 0, none⟩), .agg #[a, b, c], .int .i64 n] W (ROut X B mb cb inp fuel s (fieldO v n s) W) := by
  obtain ⟨k0, n0, A0, l0, d0, rfl, rfl, rfl⟩ := hv.shape
  have hb1 : Below W.heap.size W (W.alloc (.cells #[.int .i64 k0, .int .i64 n0, .slice A0 l0 d0] 65)) := (Below.refl _ _).alloc (Nat.le_refl _) _
  have hb2 : Below W.heap.size W ((W.alloc (.cells #[.int .i64 k0, .int .i64 n0, .slice A0 l0 d0] 65)).alloc (.cells #[.int .i64 0, .int .i64 0, .slice none 0 0] 65)) := hb1.alloc hb1.size _
  by_cases hf : ∃ t ks, v = .blk t ks ∧ n < ks.length
  · obtain ⟨t, ks, rfl, hlt⟩ := hf
    obtain ⟨A, d, e1, e2, e3, hd, hk, hrow⟩ := hv.row
    cases e1
    cases e2
    cases e3
    have hnt : n.toNat < ks.length := by omega
    obtain ⟨bb, oo, a0, a1, a2, rfl, c0, c1, c2, hsub⟩ := hrow.at_ hnt
    obtain ⟨k1, n1, A1, l1, d1, rfl, rfl, rfl⟩ := hsub.shape
    have r0 := cell_behind hb2 c0
    have r1 := cell_behind hb2 c1
    have r2 := cell_behind hb2 c2
    have hlt' : ¬ (ks.length : Int) ≤ n := by omega
    obtain ⟨m, hm⟩ : ∃ m : Nat, n = (m : Int) := ⟨n.toNat, by omega⟩
    subst hm
    simp only [Int.toNat_natCast] at hnt hsub r0 r1 r2
    have hb3 : Below W.heap.size W ((W.alloc (.cells #[.int .i64 2, .int .i64 n0, .slice (some ⟨bb, oo, none⟩) ks.length d0] 65)).alloc (.cells #[.int .i64 k1, .int .i64 n1, .slice A1 l1 d1] 65)) := hb1.alloc hb1.size _
    have HP := Lib.hid (show ROut X B mb cb inp fuel s (fieldO (.blk n0 ks) (m : Int) s) W (.returned (.agg #[.int .i64 k1, .int .i64 n1, .slice A1 l1 d1])) ((W.alloc (.cells #[.int .i64 2, .int .i64 n0, .slice (some ⟨bb, oo, none⟩) ks.length d0] 65)).alloc (.cells #[.int .i64 k1, .int .i64 n1, .slice A1 l1 d1] 65)) from by
      have he : fieldO (.blk n0 ks) (m : Int) s = (.val ks[m], s) := by
        simp only [fieldO]
        rw [if_pos hlt]
        simp [hnt]
      rw [he]
      exact ⟨Stp.below hb3 h.hBW, ⟨Nat.le_refl _, Nat.le_refl _⟩, k1, n1, A1, l1, d1, rfl, h.below hb3, hsub.step (KpX.below hb3) (Nat.le_refl _) (Nat.le_refl _)⟩)
    have hm0 : (0 : Int) ≤ (m : Int) := by omega
    have hml : (m : Int) < (ks.length : Int) := by omega
    clear h hv hb1 hb2 hb3 c0 c1 c2 hsub hrow hlt
    generalize ks.length = kl at *
    go_enter Tryd.func74, Tryd.ntmps74
    go_wp2_with fail
    exact bodyPost_ret (v := .agg #[.int .i64 k1, .int .i64 n1, .slice A1 l1 d1]) (by simp [results, Tryd.results74, go_sem]) rfl HP.out
  · have he : fieldO v n s = (.stuck, s) := by
      cases v with
      | blk t ks => simp only [fieldO]; rw [if_neg (fun e => hf ⟨t, ks, rfl, e⟩)]
      | _ => rfl
    rw [he]
    have HS := Lib.hid ((rstop_any ((h.bx (b := W.heap.size + 1) (by omega)).below hb2)).mono fun e w' hp => ROut.box (W := W) (b := W.heap.size + 1) h.hX h.hBW (own_lt h) (by omega) (new2 _ _ _) (Stp.below hb2 h.hBW) ⟨Nat.le_refl _, Nat.le_refl _⟩ (ROut.stop hp))
    have hge : k0 = 2 → ¬ n < (l0 : Int) := fun hk hlt => by
      subst hk
      cases hv with
      | blk t ks A c b o G0 G1 G2 hl hb hA c0 c1 c2 hsub => exact hf ⟨_, _, rfl, hlt⟩
    clear h hv hb1 hb2 hf he
    by_cases hk2 : k0 = 2
    · have hnl : (l0 : Int) ≤ n := by have := hge hk2; omega
      subst hk2
      clear hge
      go_enter Tryd.func74, Tryd.ntmps74
      go_wp2_with (go_at_call 46; refine HS.out.mono ?_; rintro e w' ⟨k, n, A, l, d, rfl, ⟨f0, f1, f2, ff⟩, hR⟩; have HR := Lib.hid hR; clear hR)
      exact bodyPost_ret (v := .agg #[.int .i64 k, .int .i64 n, .slice A l d]) (by simp [results, Tryd.results74, go_sem, f0, f1, f2]) rfl HR.out
    · have hk3 : (k0 == 2) = false := by simpa using hk2
      have hk4 : (k0 != 2) = true := by simpa using hk2
      clear hge hk2
      go_enter Tryd.func74, Tryd.ntmps74
      go_wp2_with (go_at_call 46; refine HS.out.mono ?_; rintro e w' ⟨k, n, A, l, d, rfl, ⟨f0, f1, f2, ff⟩, hR⟩; have HR := Lib.hid hR; clear hR)
      exact bodyPost_ret (v := .agg #[.int .i64 k, .int .i64 n, .slice A l d]) (by simp [results, Tryd.results74, go_sem, f0, f1, f2]) rfl HR.out
end
end Go.Proofs.YtnolhcdfknjncaaDoor

/-
  The document's run: Raise.
-/
set_option linter.unusedVariables false
set_option linter.unusedSimpArgs false
namespace Go.Proofs.YtnolhcdfknjncaaDoor
open Go.RowKit

section
variable {X Y : Nat → Prop} {B mb cb : Nat} {inp : List Int} {fuel : FL} {s s1 : St} {cut stk rai : Bool} {x0 x1 x2 : Value} {W W' W1 W2 : World} {o : Out}
/-- the run's block turned by some sets -/
theorem set4_heap {b : Nat} {cs : Array Value} {T : TypeId} {fr : Nat × Nat} (h : W.heap[b]? = some (.cells cs T fr)) (i j k l : Nat) (y0 y1 y2 y3 : Value) :
    ((((W.setCell ⟨b, i, none⟩ y0).setCell ⟨b, j, none⟩ y1).setCell ⟨b, k, none⟩ y2).setCell ⟨b, l, none⟩ y3).heap[b]? = some (.cells ((((cs.setIfInBounds i y0).setIfInBounds j y1).setIfInBounds k y2).setIfInBounds l y3) T fr) :=
  heap_set_self (heap_set_self (heap_set_self (heap_set_self h i y0) j y1) k y2) l y3
theorem set4_ne {b c : Nat} (hne : c ≠ b) (i j k l : Nat) (y0 y1 y2 y3 : Value) :
    ((((W.setCell ⟨b, i, none⟩ y0).setCell ⟨b, j, none⟩ y1).setCell ⟨b, k, none⟩ y2).setCell ⟨b, l, none⟩ y3).heap[c]? = W.heap[c]? :=
  (heap_set_ne hne _ _).trans ((heap_set_ne hne _ _).trans ((heap_set_ne hne _ _).trans (heap_set_ne hne _ _)))
theorem Stp.set4 (W : World) {b : Nat} (hb : Own2 mb cb b) (hB : B ≤ b) (i j k l : Nat) (y0 y1 y2 y3 : Value) : Stp B mb cb W ((((W.setCell ⟨b, i, none⟩ y0).setCell ⟨b, j, none⟩ y1).setCell ⟨b, k, none⟩ y2).setCell ⟨b, l, none⟩ y3) :=
  (((Stp.set W hb hB i y0).trans (Stp.set _ hb hB j y1)).trans (Stp.set _ hb hB k y2)).trans (Stp.set _ hb hB l y3)
def raiseO (v : PV) (s : St) : Out := match keyOf v with | some _ => (.raised v, s) | none => (.stuck, s)
theorem RIn.raise1 (h : RIn X B mb cb inp fuel s cut stk rai x0 x1 x2 W) (y0 y1 y2 : Value) : RIn X B mb cb inp fuel s cut stk true y0 y1 y2 ((((W.setCell ⟨mb, 8, none⟩ (.bool true)).setCell ⟨mb, 9, none⟩ y0).setCell ⟨mb, 10, none⟩ y1).setCell ⟨mb, 11, none⟩ y2) :=
  h.turn (Stp.set4 W (.inl rfl) h.hmb _ _ _ _ _ _ _ _) (set4_ne (Ne.symm h.hne) _ _ _ _ _ _ _ _) (fun Ai ci Ao co Ac cc h1 => by rw [set4_heap h1]; rfl) rfl rfl rfl (Nat.le_refl _) h.askB
theorem RIn.raise2 (h : RIn X B mb cb inp fuel s cut stk rai x0 x1 x2 W) (y0 y1 y2 : Value) : RIn X B mb cb inp fuel s cut stk true y0 y1 y2 ((((W.setCell ⟨mb, 9, none⟩ y0).setCell ⟨mb, 10, none⟩ y1).setCell ⟨mb, 11, none⟩ y2).setCell ⟨mb, 8, none⟩ (.bool true)) :=
  h.turn (Stp.set4 W (.inl rfl) h.hmb _ _ _ _ _ _ _ _) (set4_ne (Ne.symm h.hne) _ _ _ _ _ _ _ _) (fun Ai ci Ao co Ac cc h1 => by rw [set4_heap h1]; rfl) rfl rfl rfl (Nat.le_refl _) h.askB
theorem RIn.calm1 (h : RIn X B mb cb inp fuel s cut stk rai x0 x1 x2 W) : RIn X B mb cb inp fuel s cut stk false (.int .i64 0) (.int .i64 0) (.slice none 0 0) ((((W.setCell ⟨mb, 8, none⟩ (.bool false)).setCell ⟨mb, 9, none⟩ (.int .i64 0)).setCell ⟨mb, 10, none⟩ (.int .i64 0)).setCell ⟨mb, 11, none⟩ (.slice none 0 0)) :=
  h.turn (Stp.set4 W (.inl rfl) h.hmb _ _ _ _ _ _ _ _) (set4_ne (Ne.symm h.hne) _ _ _ _ _ _ _ _) (fun Ai ci Ao co Ac cc h1 => by rw [set4_heap h1]; rfl) rfl rfl rfl (Nat.le_refl _) h.askB
theorem raise_out {v : PV} {k : Int} {y0 y1 y2 : Value} (h : RGo X B mb cb inp fuel s W) (hv : VIn X s.fns.length s.cells.length W v y0 y1 y2) (hk : keyOf v = some k) (hw : W' = ((((W.setCell ⟨mb, 8, none⟩ (.bool true)).setCell ⟨mb, 9, none⟩ y0).setCell ⟨mb, 10, none⟩ y1).setCell ⟨mb, 11, none⟩ y2) ∨ W' = ((((W.setCell ⟨mb, 9, none⟩ y0).setCell ⟨mb, 10, none⟩ y1).setCell ⟨mb, 11, none⟩ y2).setCell ⟨mb, 8, none⟩ (.bool true))) :
    ROut X B mb cb inp fuel s (.raised v, s) W (.returned zeroV) W' := by
  have hs : Stp B mb cb W W' := by
    rcases hw with rfl | rfl
    · exact Stp.set4 W (.inl rfl) h.hmb _ _ _ _ _ _ _ _
    · exact Stp.set4 W (.inl rfl) h.hmb _ _ _ _ _ _ _ _
  refine ⟨hs, ⟨Nat.le_refl _, Nat.le_refl _⟩, 0, 0, none, 0, 0, rfl, y0, y1, y2, ?_, hv.step (hs.kp.mono h.hX) (Nat.le_refl _) (Nat.le_refl _), k, hk⟩
  rcases hw with rfl | rfl
  · exact h.raise1 y0 y1 y2
  · exact h.raise2 y0 y1 y2

set_option maxRecDepth 100000 in
set_option maxHeartbeats 1000000 in
theorem rraise_any (h : RGo X B mb cb inp fuel s W) {v : PV} {a b c : Value} (hv : VIn X s.fns.length s.cells.length W v a b c) :
    Calls Tryd.prog 89 #[.pointer (some ⟨mb, 0, none⟩), .agg #[a, b, c]] W (ROut X B mb cb inp fuel s (raiseO v s) W) := by
  obtain ⟨k0, n0, A0, l0, d0, rfl, rfl, rfl⟩ := hv.shape
  have hb1 : Below W.heap.size W (W.alloc (.cells #[.int .i64 k0, .int .i64 n0, .slice A0 l0 d0] 65)) := (Below.refl _ _).alloc (Nat.le_refl _) _
  have hb2 : Below W.heap.size W ((W.alloc (.cells #[.int .i64 k0, .int .i64 n0, .slice A0 l0 d0] 65)).alloc (.cells #[.int .i64 0, .int .i64 0, .slice none 0 0] 65)) := hb1.alloc hb1.size _
  generalize hV0 : ((W.alloc (.cells #[.int .i64 k0, .int .i64 n0, .slice A0 l0 d0] 65)).alloc (.cells #[.int .i64 0, .int .i64 0, .slice none 0 0] 65)) = V0 at hb2
  have hbx : V0.heap[W.heap.size + 1]? = some (.cells #[.int .i64 0, .int .i64 0, .slice none 0 0] 65 (0, 0)) := by rw [← hV0]; exact new2 _ _ _
  have hvx : V0.heap[W.heap.size]? = some (.cells #[.int .i64 k0, .int .i64 n0, .slice A0 l0 d0] 65 (0, 0)) := by
    rw [← hV0]
    exact (((Below.refl _ _).alloc (Nat.le_refl _) _).block W.heap.size (by simp)).trans (new1 _ _)
  have hg0 : RGo (Bx X (W.heap.size + 1)) B mb cb inp fuel s V0 := (RIn.bx h (by omega)).below hb2
  have hv0 := (hv.bx (b := W.heap.size + 1) (by omega)).step (KpX.below hb2) (Nat.le_refl _) (Nat.le_refl _)
  have hsz : W.heap.size + 1 < V0.heap.size := (Array.getElem?_eq_some_iff.1 hbx).1
  have HK := Lib.hid (rkey_any hv V0)
  have HS := Lib.hid (fun (V : World) (hb : Below V0.heap.size V0 V) => (rstop_any (hg0.below hb)).mono fun e w' hp => ROut.box (W := W) (b := W.heap.size + 1) h.hX h.hBW (own_lt h) (by omega) ((hb.block _ hsz).trans hbx) (Stp.below (hb2.trans (hb.mono hb2.size)) h.hBW) ⟨Nat.le_refl _, Nat.le_refl _⟩ (ROut.stop hp))
  have HC := Lib.hid (fun (V : World) (hb : Below V0.heap.size V0 V) => (show V.cell? ⟨W.heap.size, 0, none⟩ = some (.int .i64 k0) ∧ V.cell? ⟨W.heap.size, 1, none⟩ = some (.int .i64 n0) ∧ V.cell? ⟨W.heap.size, 2, none⟩ = some (.slice A0 l0 d0) ∧ V.cell? ⟨mb, 8, none⟩ = some (.bool false) ∧ V.cell? ⟨mb, 9, none⟩ = some (.int .i64 0) ∧ V.cell? ⟨mb, 10, none⟩ = some (.int .i64 0) ∧ V.cell? ⟨mb, 11, none⟩ = some (.slice none 0 0) ∧ (∀ i, V.frozen? ⟨mb, i, none⟩ = false) from by
    obtain ⟨m1, m2, m3, m6, m7, m8, m9, m10, m11, mf, mc⟩ := (hg0.below hb).cells
    have e := (hb.block _ (Nat.lt_of_succ_lt hsz)).trans hvx
    exact ⟨by simp [World.cell?, e], by simp [World.cell?, e], by simp [World.cell?, e], m8, m9, m10, m11, mf⟩))
  have HR := Lib.hid (fun (V V' : World) (k : Int) (hk : keyOf v = some k) (hb : Below V0.heap.size V0 V) (hw : V' = ((((V.setCell ⟨mb, 8, none⟩ (.bool true)).setCell ⟨mb, 9, none⟩ (.int .i64 k0)).setCell ⟨mb, 10, none⟩ (.int .i64 n0)).setCell ⟨mb, 11, none⟩ (.slice A0 l0 d0)) ∨ V' = ((((V.setCell ⟨mb, 9, none⟩ (.int .i64 k0)).setCell ⟨mb, 10, none⟩ (.int .i64 n0)).setCell ⟨mb, 11, none⟩ (.slice A0 l0 d0)).setCell ⟨mb, 8, none⟩ (.bool true))) =>
    ROut.box' (W := W) (b := W.heap.size + 1) h.hX h.hBW (own_lt h) (by omega) ((hb.block _ hsz).trans hbx) (Stp.below (hb2.trans (hb.mono hb2.size)) h.hBW) ⟨Nat.le_refl _, Nat.le_refl _⟩ (raise_out (hg0.below hb) (hv0.step (KpX.below hb) (Nat.le_refl _) (Nat.le_refl _)) hk hw))
  have hne : mb ≠ W.heap.size ∧ mb ≠ W.heap.size + 1 := by have := (own_lt h).1; omega
  have HN := Lib.hid hne
  clear h hv hb1 hb2 hg0 hv0 hne
  obtain ⟨z0, z1, z2, -⟩ := HC.out V0 (Below.refl _ _)
  obtain ⟨o, ho⟩ : ∃ o, raiseO v s = o := ⟨_, rfl⟩
  rw [ho]
  go_enter Tryd.func89, Tryd.ntmps89
  go_wp2_with fail
  refine HK.out.mono ?_
  rintro e w' (⟨k, hk, rfl, hb⟩ | ⟨hk, rfl, hb⟩)
  · obtain ⟨y0, y1, y2, m8, m9, m10, m11, mf⟩ := HC.out w' hb
    have hHR := Lib.hid (fun V' hw => HR.out w'.drew V' k hk hb.drew hw)
    obtain rfl : o = (.raised v, s) := by rw [← ho]; simp [raiseO, hk]
    have HQ := Lib.hid (show w'.cell? ⟨W.heap.size, 0, none⟩ = some (.int .i64 k0) ∧ w'.cell? ⟨W.heap.size, 1, none⟩ = some (.int .i64 n0) ∧ w'.cell? ⟨W.heap.size, 2, none⟩ = some (.slice A0 l0 d0) from ⟨y0, y1, y2⟩)
    have HSet := Lib.hid (fun (V : World) (i : Nat) (x : Value) (hq : V.cell? ⟨W.heap.size, 0, none⟩ = some (.int .i64 k0) ∧ V.cell? ⟨W.heap.size, 1, none⟩ = some (.int .i64 n0) ∧ V.cell? ⟨W.heap.size, 2, none⟩ = some (.slice A0 l0 d0)) =>
      (show (V.setCell ⟨mb, i, none⟩ x).cell? ⟨W.heap.size, 0, none⟩ = some (.int .i64 k0) ∧ (V.setCell ⟨mb, i, none⟩ x).cell? ⟨W.heap.size, 1, none⟩ = some (.int .i64 n0) ∧ (V.setCell ⟨mb, i, none⟩ x).cell? ⟨W.heap.size, 2, none⟩ = some (.slice A0 l0 d0) from
        ⟨(World.cell?_setCell_far V _ _ _ HN.out.1).trans hq.1, (World.cell?_setCell_far V _ _ _ HN.out.1).trans hq.2.1, (World.cell?_setCell_far V _ _ _ HN.out.1).trans hq.2.2⟩))
    have HD := Lib.hid (fun (V : World) (hq : V.cell? ⟨W.heap.size, 0, none⟩ = some (.int .i64 k0) ∧ V.cell? ⟨W.heap.size, 1, none⟩ = some (.int .i64 n0) ∧ V.cell? ⟨W.heap.size, 2, none⟩ = some (.slice A0 l0 d0)) => (show V.drew.cell? ⟨W.heap.size, 0, none⟩ = some (.int .i64 k0) ∧ V.drew.cell? ⟨W.heap.size, 1, none⟩ = some (.int .i64 n0) ∧ V.drew.cell? ⟨W.heap.size, 2, none⟩ = some (.slice A0 l0 d0) from hq))
    clear hb HS HC HR hk ho z0 z1 z2 HK hbx hvx hV0 hsz
    go_wp2_with fail
    go_region_held2 (fun V => V.cell? ⟨W.heap.size, 0, none⟩ = some (.int .i64 k0) ∧ V.cell? ⟨W.heap.size, 1, none⟩ = some (.int .i64 n0) ∧ V.cell? ⟨W.heap.size, 2, none⟩ = some (.slice A0 l0 d0))
      (with_reducible (refine HD.out _ ?_; first | exact HQ.out | exact HSet.out _ _ _ HQ.out | exact HSet.out _ _ _ (HSet.out _ _ _ (HSet.out _ _ _ HQ.out)) | exact HSet.out _ _ _ (HSet.out _ _ _ (HSet.out _ _ _ (HSet.out _ _ _ HQ.out))))) (fail)
    · obtain ⟨⟨f0, f1, f2, ff⟩, hR⟩ := hHR.out (((((w'.setCell ⟨mb, 8, none⟩ (.bool true)).setCell ⟨mb, 9, none⟩ (.int .i64 k0)).setCell ⟨mb, 10, none⟩ (.int .i64 n0)).setCell ⟨mb, 11, none⟩ (.slice A0 l0 d0)).drew) (.inl rfl)
      clear hHR HQ HSet HD y0 y1 y2 m8 m9 m10 m11 mf
      generalize ((((w'.setCell ⟨mb, 8, none⟩ (.bool true)).setCell ⟨mb, 9, none⟩ (.int .i64 k0)).setCell ⟨mb, 10, none⟩ (.int .i64 n0)).setCell ⟨mb, 11, none⟩ (.slice A0 l0 d0)).drew = V' at *
      have HR := Lib.hid hR
      clear hR
      go_wp2_with fail
      exact bodyPost_ret (v := zeroV) (by simp [results, Tryd.results89, go_sem, f0, f1, f2]) rfl HR.out
  · have hHS := Lib.hid (HS.out w' hb)
    obtain rfl : o = (.stuck, s) := by rw [← ho]; simp [raiseO, hk]
    clear HS HC HR hk ho z0 z1 z2
    go_wp2_with (go_at_call 46; refine hHS.out.mono ?_; rintro e w' ⟨k, n, A, l, d, rfl, ⟨f0, f1, f2, ff⟩, hR⟩; have HR := Lib.hid hR; clear hR)
    exact bodyPost_ret (v := .agg #[.int .i64 k, .int .i64 n, .slice A l d]) (by simp [results, Tryd.results89, go_sem, f0, f1, f2]) rfl HR.out
end
end Go.Proofs.YtnolhcdfknjncaaDoor

/-
  The document's run: read, Caught.
-/
set_option linter.unusedVariables false
set_option linter.unusedSimpArgs false
namespace Go.Proofs.YtnolhcdfknjncaaDoor
open Go.RowKit

section
variable {X Y : Nat → Prop} {B mb cb : Nat} {inp : List Int} {fuel : FL} {s s1 : St} {cut stk rai : Bool} {x0 x1 x2 : Value} {W W' W1 W2 : World} {o : Out}
theorem RIn.ask_ (h : RIn X B mb cb inp fuel s cut stk rai x0 x1 x2 W) (hl : fuel.lim < fuel.f) : RIn X B mb cb inp fuel.up { s with asked := s.asked + 1 } cut stk rai x0 x1 x2 (W.setCell ⟨mb, 1, none⟩ (.int .i64 ((s.asked : Int) + 1))) :=
  (h.lim_ (l := fuel.lim + 1) (by omega) (by omega)).turn (h.set 1 _) (heap_set_ne (Ne.symm h.hne) _ _) (fun Ai ci Ao co Ac cc h1 => by
    rw [heap_set_self h1 1 _]
    have : (s.asked : Int) + 1 = ((s.asked + 1 : Nat) : Int) := by omega
    rw [this]; rfl) rfl rfl rfl (Nat.le_refl _) (by have := h.askB; show s.asked + 1 + s.left ≤ fuel.lim + 1; omega)
/-- the input, read -/
theorem RIn.inp_ (h : RIn X B mb cb inp fuel s cut stk rai x0 x1 x2 W) : ∃ Ai ci, W.cell? ⟨mb, 0, none⟩ = some (.slice Ai inp.length ci) ∧ IntsIn B W Ai inp := by
  obtain ⟨Ai, ci, Ao, co, Ac, cc, h1, h2, -⟩ := h.m
  exact ⟨Ai, ci, by simp [World.cell?, h1], h2⟩
set_option maxRecDepth 100000 in
set_option maxHeartbeats 1000000 in
theorem rread_any (h : RGo X B mb cb inp fuel s W) (hlim : fuel.lim < fuel.f) :
    Calls Tryd.prog 88 #[.pointer (some ⟨mb, 0, none⟩)] W (ROut X B mb cb inp fuel.up s (readP inp s) W) := by
  have hb1 : Below W.heap.size W (W.alloc (.cells #[.int .i64 0, .int .i64 0, .slice none 0 0] 65)) := (Below.refl _ _).alloc (Nat.le_refl _) _
  generalize hV0 : (W.alloc (.cells #[.int .i64 0, .int .i64 0, .slice none 0 0] 65)) = V0 at hb1
  have hbx : V0.heap[W.heap.size]? = some (.cells #[.int .i64 0, .int .i64 0, .slice none 0 0] 65 (0, 0)) := by rw [← hV0]; exact new1 _ _
  have hg0 : RGo (Bx X W.heap.size) B mb cb inp fuel s V0 := (RIn.bx h (by omega)).below hb1
  have hg1 := hg0.ask_ hlim
  have hst1 := hg0.set 1 (.int .i64 ((s.asked : Int) + 1))
  obtain ⟨m1, m2, m3, m6, m7, m8, m9, m10, m11, mf, mc⟩ := hg0.cells
  obtain ⟨n1, n2, n3, n6, n7, n8, n9, n10, n11, nf, nc⟩ := hg1.cells
  obtain ⟨Ai, ci, n0, hin⟩ := hg1.inp_
  have hfb := h.fuelB
  have hlb := h.limB
  have hil := h.inpB
  have hal := h.askB
  have hsm : (s.asked : Int) + 1 ≤ 1000001 := by omega
  have hw : IntKind.i64.wrap ((s.asked : Int) + 1) = (s.asked : Int) + 1 := by rw [IntKind.wrap_i64]; omega
  have hne : mb ≠ W.heap.size ∧ cb ≠ W.heap.size := by have := own_lt h; omega
  have hno : ¬ Own2 mb cb W.heap.size := fun e => by rcases e with e | e <;> omega
  have hs1 : Stp B mb cb W (V0.setCell ⟨mb, 1, none⟩ (.int .i64 ((s.asked : Int) + 1))) := (Stp.below hb1 h.hBW).trans hst1
  have hbx1 := hst1.kp.same _ _ hbx rfl hno
  have hB1 : B ≤ (V0.setCell ⟨mb, 1, none⟩ (.int .i64 ((s.asked : Int) + 1))).heap.size := hg1.hBW
  have m1' : V0.cell? ⟨mb, 1, none⟩ = some (.int .i64 (s.asked : Int)) := m1
  obtain ⟨o, ho⟩ : ∃ o, readP inp s = o := ⟨_, rfl⟩
  rw [ho]
  have HX := Lib.hid h
  clear h
  go_enter Tryd.func88, Tryd.ntmps88
  go_wp2_with fail
  generalize (V0.setCell ⟨mb, 1, none⟩ (.int .i64 ((s.asked : Int) + 1))) = V1 at *
  have hn1 : V1.cell? ⟨mb, 1, none⟩ = some (.int .i64 ((s.asked : Int) + 1)) := by simpa using n1
  have HG := Lib.hid hg1
  have HS1 := Lib.hid hs1
  have HBX := Lib.hid hbx1
  have HIN := Lib.hid hin
  clear hg1 hs1 hbx1 hst1 hg0 m1 m1' m2 m3 m6 m7 m8 m9 m10 m11 mf mc n1 n2 n3 n6 n7 n8 n9 n10 n11 nc hbx hb1 hV0
  by_cases hlt : s.asked < inp.length
  · have hgt : ¬ (inp.length : Int) < (s.asked : Int) + 1 := by omega
    have hgt2 : ¬ (4096 : Int) < (s.asked : Int) + 1 := by omega
    obtain rfl : o = (.val (.int (wrap31 (nth inp s.asked))), { s with asked := s.asked + 1 }) := by rw [← ho]; simp [readP, hlt]
    obtain ⟨bi, oi, rfl, hbi, hci⟩ := HIN.out.at_ (by omega)
    have hcj := hci s.asked hlt
    have HP := Lib.hid (fun (V : World) (hb : Below V1.heap.size V1 V) => ROut.box' (X := X) (fuel := fuel.up) (W := W) (b := W.heap.size) HX.out.hX HX.out.hBW (own_lt HX.out) (Nat.le_refl _) HBX.out HS1.out ⟨Nat.le_refl _, Nat.le_refl _⟩
      (show ROut (Bx X W.heap.size) B mb cb inp fuel.up { s with asked := s.asked + 1 } (.val (.int (wrap31 (nth inp s.asked))), { s with asked := s.asked + 1 }) V1 (.returned (.agg #[.int .i64 1, .int .i64 (wrap31 (nth inp s.asked)), .slice none 0 0])) V from
        ⟨Stp.below hb hB1, ⟨Nat.le_refl _, Nat.le_refl _⟩, _, _, _, _, _, rfl, HG.out.below hb, .int _⟩))
    have hw2 : IntKind.i64.wrap ((s.asked : Int) + 1 - 1) = (s.asked : Int) := by rw [IntKind.wrap_i64]; omega
    have hw3 : IntKind.i64.wrap (s.asked : Int) = (s.asked : Int) := by rw [IntKind.wrap_i64]; omega
    have hj0 : (0 : Int) ≤ (s.asked : Int) := by omega
    have hjl : (s.asked : Int) < (inp.length : Int) := by omega
    clear hci hlt ho hal hlb hfb hil hsm
    generalize nth inp s.asked = x at *
    go_wp2_with fail
    go_quiet (fail)
    go_wp2_with fail
    have hbw : W.heap.size ≠ bi := by have := HX.out.hBW; omega
    have HC := Lib.hid (fun (V : World) (hb : Below V1.heap.size V1 V) => (show V.cell? ⟨mb, 0, none⟩ = some (.slice (some ⟨bi, oi, none⟩) inp.length ci) ∧ V.cell? ⟨mb, 1, none⟩ = some (.int .i64 ((s.asked : Int) + 1)) ∧ V.cell? ⟨bi, oi + s.asked, none⟩ = some (.int .i64 x) from ⟨cell_behind hb n0, cell_behind hb hn1, cell_behind hb hcj⟩))
    have HD := Lib.hid (fun (V : World) (hq : V.cell? ⟨mb, 0, none⟩ = some (.slice (some ⟨bi, oi, none⟩) inp.length ci) ∧ V.cell? ⟨mb, 1, none⟩ = some (.int .i64 ((s.asked : Int) + 1)) ∧ V.cell? ⟨bi, oi + s.asked, none⟩ = some (.int .i64 x)) => (show V.drew.cell? ⟨mb, 0, none⟩ = some (.slice (some ⟨bi, oi, none⟩) inp.length ci) ∧ V.drew.cell? ⟨mb, 1, none⟩ = some (.int .i64 ((s.asked : Int) + 1)) ∧ V.drew.cell? ⟨bi, oi + s.asked, none⟩ = some (.int .i64 x) from hq))
    have HE := Lib.hid (fun (V : World) (i : Nat) (xv : Value) (hq : V.cell? ⟨mb, 0, none⟩ = some (.slice (some ⟨bi, oi, none⟩) inp.length ci) ∧ V.cell? ⟨mb, 1, none⟩ = some (.int .i64 ((s.asked : Int) + 1)) ∧ V.cell? ⟨bi, oi + s.asked, none⟩ = some (.int .i64 x)) => (show (V.setCell ⟨W.heap.size, i, none⟩ xv).cell? ⟨mb, 0, none⟩ = some (.slice (some ⟨bi, oi, none⟩) inp.length ci) ∧ (V.setCell ⟨W.heap.size, i, none⟩ xv).cell? ⟨mb, 1, none⟩ = some (.int .i64 ((s.asked : Int) + 1)) ∧ (V.setCell ⟨W.heap.size, i, none⟩ xv).cell? ⟨bi, oi + s.asked, none⟩ = some (.int .i64 x) from ⟨(World.cell?_setCell_far V _ _ _ hne.1.symm).trans hq.1, (World.cell?_setCell_far V _ _ _ hne.1.symm).trans hq.2.1, (World.cell?_setCell_far V _ _ _ hbw).trans hq.2.2⟩))
    have HB0 := Lib.hid (show Below V1.heap.size V1 ((V1.drewN nq).drew) from (below_drewN (Below.refl _ _) nq).drew)
    have HBQ := Lib.hid (show Below V1.heap.size V1 (V1.drewN (nq + 1)) from below_drewN (Below.refl _ _) (nq + 1))
    go_region_held2 (fun V => V.cell? ⟨mb, 0, none⟩ = some (.slice (some ⟨bi, oi, none⟩) inp.length ci) ∧ V.cell? ⟨mb, 1, none⟩ = some (.int .i64 ((s.asked : Int) + 1)) ∧ V.cell? ⟨bi, oi + s.asked, none⟩ = some (.int .i64 x))
      (with_reducible (first | exact HC.out _ HB0.out | exact HC.out _ HBQ.out | exact HC.out _ HBR.out | exact HD.out _ (HE.out _ _ _ (HC.out _ HBQ.out)) | exact HD.out _ (HE.out _ _ _ (HE.out _ _ _ (HE.out _ _ _ (HC.out _ HBQ.out)))) | exact HD.out _ (HE.out _ _ _ (HC.out _ HBR.out)) | exact HE.out _ _ _ (HE.out _ _ _ (HE.out _ _ _ (HC.out _ HBR.out)))))
      ((first
        | (go_at_call 30; refine (rwrap_any _ _).mono ?_; rintro e w' ⟨rfl, rfl⟩)
        | (go_at_call 47; refine (vint_any _ _).mono ?_; rintro e w' ⟨rfl, hbi⟩; have HBR := Lib.hid (HBQ.out.trans (hbi.mono HBQ.out.size)); obtain ⟨⟨f0, f1, f2, ff⟩, hR⟩ := HP.out _ HBR.out; have HR := Lib.hid hR; clear hR)))
    go_wp2_with fail
    exact bodyPost_ret (v := .agg #[.int .i64 1, .int .i64 (wrap31 x), .slice none 0 0]) (by simp [results, Tryd.results88, go_sem, f0, f1, f2]) rfl HR.out
  · have hgt : (inp.length : Int) < (s.asked : Int) + 1 := by omega
    obtain rfl : o = (.raised (.int 1), { s with asked := s.asked + 1 }) := by rw [← ho]; simp [readP, hlt]
    have HR := Lib.hid (fun (V : World) (hb : Below V1.heap.size V1 V) => (rraise_any (HG.out.below hb) (.int 1)).mono fun e w' hp => ROut.box (X := X) (fuel := fuel.up) (W := W) (b := W.heap.size) HX.out.hX HX.out.hBW (own_lt HX.out) (Nat.le_refl _) ((hb.block _ (Array.getElem?_eq_some_iff.1 HBX.out).1).trans HBX.out) (HS1.out.trans (Stp.below hb hB1)) ⟨Nat.le_refl _, Nat.le_refl _⟩ hp)
    clear hlt ho hal hlb hfb hil hsm
    go_wp2_with fail
    go_quiet (fail)
    have HBQ := Lib.hid (show Below V1.heap.size V1 (V1.drewN nq) from below_drewN (Below.refl _ _) nq)
    go_wp2_with (first
      | (go_at_call 47; refine (vint_any _ _).mono ?_; rintro e w' ⟨rfl, hbi⟩; have HRR := Lib.hid (HR.out _ (HBQ.out.trans (hbi.mono HBQ.out.size))))
      | (go_at_call 89; refine HRR.out.mono ?_; rintro e w' ⟨k, n, A, l, d, rfl, ⟨f0, f1, f2, ff⟩, hR⟩; have HR := Lib.hid hR; clear hR))
    exact bodyPost_ret (v := .agg #[.int .i64 k, .int .i64 n, .slice A l d]) (by simp [results, Tryd.results88, go_sem, f0, f1, f2]) rfl HR.out
end
end Go.Proofs.YtnolhcdfknjncaaDoor

/-
  The document's run: Caught.
-/
set_option linter.unusedVariables false
set_option linter.unusedSimpArgs false
namespace Go.Proofs.YtnolhcdfknjncaaDoor
open Go.RowKit

section
variable {X Y : Nat → Prop} {B mb cb : Nat} {inp : List Int} {fuel : FL} {s s1 : St} {cut stk rai : Bool} {x0 x1 x2 : Value} {W W' W1 W2 : World} {o : Out}
set_option maxRecDepth 100000 in
set_option maxHeartbeats 1000000 in
theorem rcaught_no (h : RIn X B mb cb inp fuel s cut stk rai x0 x1 x2 W) (hn : (!rai || cut || stk) = true) :
    Calls Tryd.prog 76 #[.pointer (some ⟨mb, 0, none⟩)] W fun e w' => e = .returned (.tuple #[zeroV, .bool false]) ∧ Below W.heap.size W w' := by
  obtain ⟨m1, m2, m3, m6, m7, m8, m9, m10, m11, mf, mc⟩ := h.cells
  have hlt := (own_lt h).1
  have hb : Below W.heap.size W (W.alloc (.cells #[.int .i64 0, .int .i64 0, .slice none 0 0] 65)) := (Below.refl _ _).alloc (Nat.le_refl _) _
  have HB := Lib.hid hb
  clear h hb m1 m2 m3 m9 m10 m11 mc
  cases rai <;> cases cut <;> cases stk <;> first | (exfalso; revert hn; decide) | skip
  all_goals
    clear hn
    go_enter Tryd.func76, Tryd.ntmps76
    go_wp2_with fail
    exact bodyPost_ret (v := .tuple #[zeroV, .bool false]) (by simp [results, Tryd.results76, go_sem, zeroV]) rfl ⟨rfl, HB.out⟩
set_option maxRecDepth 100000 in
set_option maxHeartbeats 1000000 in
theorem rcaught_yes {v : PV} {y0 y1 y2 : Value} (h : RIn X B mb cb inp fuel s false false true y0 y1 y2 W) (hv : VIn X s.fns.length s.cells.length W v y0 y1 y2) :
    Calls Tryd.prog 76 #[.pointer (some ⟨mb, 0, none⟩)] W fun e w' => ∃ k n A l d, e = .returned (.tuple #[.agg #[.int .i64 k, .int .i64 n, .slice A l d], .bool true]) ∧ Stp B mb cb W w' ∧ RGo X B mb cb inp fuel s w' ∧ VIn X s.fns.length s.cells.length w' v (.int .i64 k) (.int .i64 n) (.slice A l d) := by
  obtain ⟨k0, n0, A0, l0, d0, rfl, rfl, rfl⟩ := hv.shape
  obtain ⟨m1, m2, m3, m6, m7, m8, m9, m10, m11, mf, mc⟩ := h.cells
  have hlt := (own_lt h).1
  have h2 := h.calm1
  have hs2 : Stp B mb cb W _ := Stp.set4 W (.inl rfl) h.hmb 8 9 10 11 (.bool false) (.int .i64 0) (.int .i64 0) (.slice none 0 0)
  have HP := Lib.hid (fun (V : World) (hb : Below ((((W.setCell ⟨mb, 8, none⟩ (.bool false)).setCell ⟨mb, 9, none⟩ (.int .i64 0)).setCell ⟨mb, 10, none⟩ (.int .i64 0)).setCell ⟨mb, 11, none⟩ (.slice none 0 0)).heap.size ((((W.setCell ⟨mb, 8, none⟩ (.bool false)).setCell ⟨mb, 9, none⟩ (.int .i64 0)).setCell ⟨mb, 10, none⟩ (.int .i64 0)).setCell ⟨mb, 11, none⟩ (.slice none 0 0)) V) =>
    (show Stp B mb cb W V ∧ RGo X B mb cb inp fuel s V ∧ VIn X s.fns.length s.cells.length V v (.int .i64 k0) (.int .i64 n0) (.slice A0 l0 d0) from
      ⟨hs2.trans (Stp.below hb h2.hBW), h2.below hb, (hv.step (hs2.kp.mono h.hX) (Nat.le_refl _) (Nat.le_refl _)).step (KpX.below hb) (Nat.le_refl _) (Nat.le_refl _)⟩))
  clear h hv h2 hs2
  go_enter Tryd.func76, Tryd.ntmps76
  go_wp2_with fail
  refine bodyPost_ret (v := .tuple #[.agg #[.int .i64 k0, .int .i64 n0, .slice A0 l0 d0], .bool true]) (by simp [results, Tryd.results76, go_sem]) rfl ⟨k0, n0, A0, l0, d0, rfl, HP.out _ ?_⟩
  exact ((Below.refl _ _).alloc (Nat.le_refl _) _).alloc (((Below.refl _ _).alloc (Nat.le_refl _) _).size) _
end
end Go.Proofs.YtnolhcdfknjncaaDoor

/-
  Rows of values of some cells each, as lists; an append of a row that may be nil.
-/
set_option linter.unusedVariables false
set_option linter.unusedSimpArgs false
namespace Go.Proofs.YtnolhcdfknjncaaDoor
open Go.RowKit

section
variable {α : Type} {P Q : α → List Value → Prop} {k : Nat}
/-- a list of cells holds some things, k cells each -/
inductive RVals (P : α → List Value → Prop) (k : Nat) : List α → List Value → Prop
  | nil : RVals P k [] []
  | cons (a : α) (l : List α) (c xs : List Value) (h : P a c) (hk : c.length = k) (ht : RVals P k l xs) : RVals P k (a :: l) (c ++ xs)
theorem RVals.len {l : List α} {xs : List Value} (h : RVals P k l xs) : xs.length = l.length * k := by
  induction h with
  | nil => simp
  | cons a l c xs h hk ht ih => simp [ih, hk, Nat.add_mul]; omega
theorem RVals.mono {l : List α} {xs : List Value} (h : RVals P k l xs) (hm : ∀ a c, P a c → Q a c) : RVals Q k l xs := by
  induction h with
  | nil => exact .nil
  | cons a l c xs h hk ht ih => exact .cons a l c xs (hm _ _ h) hk ih
theorem RVals.one {l : List α} {xs : List Value} (h : RVals P k l xs) (hm : ∀ a c, P a c → ∀ u ∈ c, u.oneCell' = true) : ∀ u ∈ xs, u.oneCell' = true := by
  induction h with
  | nil => simp
  | cons a l c xs h hk ht ih =>
    intro u hu
    rcases List.mem_append.1 hu with h' | h'
    · exact hm _ _ h u h'
    · exact ih u h'
theorem RVals.app {l l2 : List α} {xs ys : List Value} (h : RVals P k l xs) (h2 : RVals P k l2 ys) : RVals P k (l ++ l2) (xs ++ ys) := by
  induction h with
  | nil => exact h2
  | cons a l c xs h hk ht ih => rw [List.append_assoc]; exact .cons a _ c _ h hk ih
theorem RVals.single {a : α} {c : List Value} (h : P a c) (hk : c.length = k) : RVals P k [a] c := by
  have := RVals.cons a [] c [] h hk .nil
  simpa using this
theorem RVals.at_ {l : List α} {xs : List Value} (h : RVals P k l xs) : ∀ i (hi : i < l.length), ∃ c, P l[i] c ∧ c.length = k ∧ ∀ j, j < k → xs[i * k + j]? = c[j]? := by
  induction h with
  | nil => intro i hi; simp at hi
  | cons a l c xs h hk ht ih =>
    intro i hi
    cases i with
    | zero =>
      refine ⟨c, h, hk, fun j hj => ?_⟩
      rw [Nat.zero_mul, Nat.zero_add, List.getElem?_append_left (by omega)]
    | succ i =>
      obtain ⟨c', h1, h2, h3⟩ := ih i (by simpa using hi)
      refine ⟨c', by simpa using h1, h2, fun j hj => ?_⟩
      have e : (i + 1) * k + j = i * k + j + k := by rw [Nat.add_mul]; omega
      rw [List.getElem?_append_right (by omega), hk, e, Nat.add_sub_cancel]
      exact h3 j hj
theorem RVals.of {w : World} {b : Nat} : ∀ (l : List α) (o : Nat), (∀ i (hi : i < l.length), ∃ c, P l[i] c ∧ c.length = k ∧ ∀ j u, c[j]? = some u → w.cell? ⟨b, o + (i * k + j), none⟩ = some u) → ∃ xs, RVals P k l xs ∧ ∀ j u, xs[j]? = some u → w.cell? ⟨b, o + j, none⟩ = some u := by
  intro l
  induction l with
  | nil => intro o h; exact ⟨[], .nil, by simp⟩
  | cons a l ih =>
    intro o h
    obtain ⟨c, h1, h2, h3⟩ := h 0 (by simp)
    obtain ⟨xs, g1, g2⟩ := ih (o + k) (fun i hi => by
      obtain ⟨c', k1, k2, k3⟩ := h (i + 1) (by simpa using hi)
      refine ⟨c', by simpa using k1, k2, fun j u hj => ?_⟩
      have e : o + ((i + 1) * k + j) = o + k + (i * k + j) := by rw [Nat.add_mul]; omega
      rw [← e]; exact k3 j u hj)
    refine ⟨c ++ xs, .cons a l c xs h1 h2 g1, fun j u hj => ?_⟩
    by_cases hjk : j < k
    · rw [List.getElem?_append_left (by omega)] at hj
      have := h3 j u hj
      simpa using this
    · rw [List.getElem?_append_right (by omega), h2] at hj
      have := g2 (j - k) u hj
      have e : o + k + (j - k) = o + j := by omega
      rwa [e] at this
end

theorem add_plain (b o j : Nat) : (⟨b, o, none⟩ : Addr).add j = ⟨b, o + j, none⟩ := by cases j <;> simp [Addr.add]
/-- a row's cells; nil: there are none -/
def RowOf (w : World) (A : Option Addr) (news : List Value) : Prop := (A = none ∧ news = []) ∨ ∃ ad : Addr, A = some ad ∧ ∀ j u, news[j]? = some u → w.cell? (ad.add j) = some u
theorem RowOf.below {w w' : World} {A : Option Addr} {news : List Value} (h : RowOf w A news) (hb : Below w.heap.size w w') : RowOf w' A news := by
  rcases h with h | ⟨ad, hA, hc⟩
  · exact .inl h
  · exact .inr ⟨ad, hA, fun j u hj => (hb.cell (p := ad.add j) (World.block_lt_of_cell? _ _ (hc j u hj))).trans (hc j u hj)⟩
theorem grown_below {w w1 w2 : World} {row : Option Nat} (h : Below w.heap.size w w1) (hg : w1.grownBy w2 row) (hr : ∀ b, row = some b → w.heap.size ≤ b) : Below w.heap.size w w2 :=
  ⟨hg.os.trans h.os, hg.tape.trans h.tape, hg.output.trans h.output, Nat.le_trans h.size hg.size, fun i hi => (hg.block i (Nat.lt_of_lt_of_le hi h.size) (fun e => by have := hr i e.symm; omega)).trans (h.block i hi)⟩
theorem own_ge {w : World} {base : Nat} {e : TypeId} {size : Nat} {v : Value} {n : Nat} {xs : List Value} (h : w.ownsRow base e size v n xs) : ∀ b, v.ownBlock = some b → base ≤ b := by
  intro b hb
  rcases h.2 with ⟨rfl, _⟩ | ⟨g, cap, cur, rfl, hg, _⟩
  · simp [Value.ownBlock] at hb
  · simp [Value.ownBlock] at hb; omega

section
variable {P : Program} (w : World)
theorem run_append_none_any (base : Nat) (t ty e : TypeId) (i : TypeInfo) (size : Nat) (ht : P.underlying t = some (.slice e)) (hi : P.info? e = some i)
    (v : Value) (n c : Nat) (xs : List Value) (hown : w.ownsRow base e size v n xs) :
    (Builtin.append_ #[t, t] ty #[v, .slice none 0 c]).run P w = .ok v w := by
  rcases hown.2 with ⟨rfl, rfl⟩ | ⟨g, cap, cur, rfl, _, _, hnc, _⟩
  · simp [Builtin.append_, run_underlying ht, sizeOf, typeInfo, hi, Builtin.lenOf, Builtin.firstCells]
  · simp [Builtin.append_, run_underlying ht, sizeOf, typeInfo, hi, Builtin.lenOf, Builtin.firstCells, hnc, storeCells]
theorem wp_append_row {o : Oper} {a : Act} {K : Act → World → Prop} {Q : Exit → Act → World → Prop} (s x : Operand) (t : TypeId)
    (ho : o.op = .call { callee := .builtin .append, args := #[s, x], argTypes := #[t, t] })
    (base : Nat) (e : TypeId) (i : TypeInfo) (z : Value) (size bytes : Nat) (ht : P.underlying t = some (.slice e)) (hi : P.info? e = some i) (hz : i.zero = some z)
    (hsize : i.size = size) (hby : i.bytes = bytes) (hzs : z.cells.size = size) (hsz : 0 < size)
    (v : Value) (n : Nat) (xs : List Value) (hs : a.eval s = v) (hown : w.ownsRow base e size v n xs)
    (A : Option Addr) (m c : Nat) (news : List Value) (hx : a.eval x = .slice A m c) (hl : news.length = m * size) (hnews : RowOf w A news) (h1 : ∀ u ∈ news, u.oneCell' = true)
    (h63 : n + m ≤ maxLen) (hbytes : (n + m) * bytes ≤ 140737488355328) (hbase : base ≤ w.heap.size)
    (h : ∀ v' w', w'.ownsRow base e size v' (n + m) (xs ++ news) → w.grownBy w' v.ownBlock → (v'.ownBlock = v.ownBlock ∨ v'.ownBlock = some w.heap.size) → K (a.put o.dst v') w') : o.wp P a w K Q := by
  rcases hnews with ⟨rfl, rfl⟩ | ⟨ad, rfl, hc⟩
  · have hm : m = 0 := by
      simp only [List.length_nil] at hl
      rcases Nat.mul_eq_zero.1 hl.symm with h0 | h0
      · exact h0
      · omega
    subst hm
    have hr := run_append_none_any (P := P) w base t o.type e i size ht hi v n c xs hown
    unfold Oper.wp execOp
    simp only [ho, resolve, invoke, builtin, Sem.run_bind, Sem.run_pure, Result.andThen_ok, List.map_toArray, List.map_cons, List.map_nil, hs, hx, hr]
    exact h v w (by simpa using hown) ⟨rfl, rfl, rfl, Nat.le_refl _, fun k _ _ => rfl⟩ (.inl rfl)
  · exact wp_append_at w s x t ho base e i z size bytes ht hi hz hsize hby hzs hsz v n xs hs hown ad m c news hx hl hc h1 h63 hbytes hbase h
end

section
variable {B mb cb : Nat} {X : Nat → Prop} {nf nc : Nat} {w w' : World}
def PV3 (X : Nat → Prop) (nf nc : Nat) (w : World) (v : PV) (c : List Value) : Prop := ∃ a b d, c = [a, b, d] ∧ VIn X nf nc w v a b d
def PF6 (B : Nat) (X : Nat → Prop) (nf nc : Nat) (w : World) (f : PFn) (c : List Value) : Prop := ∃ g1 g2 g3 g4 g5, c = [.int .i64 f.param, g1, g2, g3, g4, g5] ∧ CoreIn B w f.body #[g1, g2, g3, g4] ∧ SmallT f.body ∧ EIn X nf nc w f.env g5
def PI1 (n : Int) (c : List Value) : Prop := c = [.int .i64 n]
theorem VIn.one {v : PV} {a b c : Value} (h : VIn X nf nc w v a b c) : a.oneCell' = true ∧ b.oneCell' = true ∧ c.oneCell' = true := by
  obtain ⟨_, _, _, _, _, rfl, rfl, rfl⟩ := h.shape
  exact ⟨rfl, rfl, rfl⟩
theorem PV3.one {v : PV} {c : List Value} (h : PV3 X nf nc w v c) : ∀ u ∈ c, u.oneCell' = true := by
  obtain ⟨a, b, d, rfl, hv⟩ := h
  obtain ⟨h1, h2, h3⟩ := hv.one
  simp [h1, h2, h3]
theorem PF6.one {f : PFn} {c : List Value} (h : PF6 B X nf nc w f c) : ∀ u ∈ c, u.oneCell' = true := by
  obtain ⟨g1, g2, g3, g4, g5, rfl, hc, -, he⟩ := h
  obtain ⟨pq, rfl⟩ := he.shape
  obtain ⟨k, n, ks, cs, Ak, ck, Ac, cc, b, o, G0, G1, G2, G3, -, hv, -⟩ := hc.open_
  simp only [Array.mk.injEq, List.cons.injEq, and_true] at hv
  obtain ⟨rfl, rfl, rfl, rfl⟩ := hv
  simp [Value.oneCell']
theorem PI1.one {n : Int} {c : List Value} (h : PI1 n c) : ∀ u ∈ c, u.oneCell' = true := by unfold PI1 at h; subst h; simp [Value.oneCell']

theorem VRow.list {A : Option Addr} {ks : List PV} (h : VRow X nf nc w A ks) : ∃ xs, RVals (PV3 X nf nc w) 3 ks xs ∧ RowOf w A xs := by
  rcases h with rfl | ⟨b, o, G0, G1, G2, rfl, hx, c0, c1, c2, hs⟩
  · refine ⟨[], .nil, ?_⟩
    rcases A with _ | ad
    · exact .inl ⟨rfl, rfl⟩
    · exact .inr ⟨_, rfl, by simp⟩
  · obtain ⟨xs, h1, h2⟩ := RVals.of (P := PV3 X nf nc w) (k := 3) (w := w) (b := b) ks o (fun i hi => ⟨[G0 i, G1 i, G2 i], ⟨_, _, _, rfl, hs i hi⟩, rfl, fun j u hj => by
      match j, hj with
      | 0, hj => simp at hj; subst hj; exact c0 i hi
      | 1, hj => simp at hj; subst hj; exact c1 i hi
      | 2, hj => simp at hj; subst hj; exact c2 i hi⟩)
    exact ⟨xs, h1, .inr ⟨_, rfl, fun j u hj => by rw [add_plain]; exact h2 j u hj⟩⟩
theorem FRow.list {A : Option Addr} {ks : List PFn} (h : FRow B X nf nc w A ks) : ∃ xs, RVals (PF6 B X nf nc w) 6 ks xs ∧ RowOf w A xs := by
  rcases h with rfl | ⟨b, o, G1, G2, G3, G4, G5, rfl, hx, c0, c1, c2, c3, c4, c5, hs⟩
  · refine ⟨[], .nil, ?_⟩
    rcases A with _ | ad
    · exact .inl ⟨rfl, rfl⟩
    · exact .inr ⟨_, rfl, by simp⟩
  · obtain ⟨xs, h1, h2⟩ := RVals.of (P := PF6 B X nf nc w) (k := 6) (w := w) (b := b) ks o (fun i hi => ⟨[.int .i64 ks[i].param, G1 i, G2 i, G3 i, G4 i, G5 i], ⟨_, _, _, _, _, rfl, hs i hi⟩, rfl, fun j u hj => by
      match j, hj with
      | 0, hj => simp at hj; subst hj; exact c0 i hi
      | 1, hj => simp at hj; subst hj; exact c1 i hi
      | 2, hj => simp at hj; subst hj; exact c2 i hi
      | 3, hj => simp at hj; subst hj; exact c3 i hi
      | 4, hj => simp at hj; subst hj; exact c4 i hi
      | 5, hj => simp at hj; subst hj; exact c5 i hi⟩)
    exact ⟨xs, h1, .inr ⟨_, rfl, fun j u hj => by rw [add_plain]; exact h2 j u hj⟩⟩
theorem ORow.list {A : Option Addr} {ks : List Int} (h : ORow B X w A ks) : ∃ xs, RVals PI1 1 ks xs ∧ RowOf w A xs := by
  rcases h.2 with rfl | ⟨b, o, rfl, hx, c0⟩
  · refine ⟨[], .nil, ?_⟩
    rcases A with _ | ad
    · exact .inl ⟨rfl, rfl⟩
    · exact .inr ⟨_, rfl, by simp⟩
  · obtain ⟨xs, h1, h2⟩ := RVals.of (P := PI1) (k := 1) (w := w) (b := b) ks o (fun i hi => ⟨[.int .i64 ks[i]], rfl, rfl, fun j u hj => by
      match j, hj with
      | 0, hj =>
        simp at hj; subst hj
        have := c0 i hi
        rw [nth_eq ks hi] at this
        simpa using this⟩)
    exact ⟨xs, h1, .inr ⟨_, rfl, fun j u hj => by rw [add_plain]; exact h2 j u hj⟩⟩

/-- an own row's cells -/
theorem own_cell {base : Nat} {e : TypeId} {size n : Nat} {v : Value} {xs : List Value} (h : w.ownsRow base e size v n xs) (hn : 0 < n) : ∃ g cap, v = .slice (some ⟨g, 0, none⟩) n cap ∧ base ≤ g ∧ n ≤ cap ∧ (∀ i, w.frozen? ⟨g, i, none⟩ = false) ∧ g < w.heap.size ∧ ∀ j u, xs[j]? = some u → w.cell? ⟨g, 0 + j, none⟩ = some u := by
  rcases h.2 with ⟨_, h0⟩ | ⟨g, cap, cur, hv, hg, hc, hnc, _, hsz, hxs⟩
  · omega
  · refine ⟨g, cap, hv, hg, hnc, fun i => by simp [World.frozen?, hc], (Array.getElem?_eq_some_iff.1 hc).1, fun j u hj => ?_⟩
    rw [← hxs, List.getElem?_take] at hj
    split at hj
    · simp [World.cell?, hc]
      simpa using hj
    · cases hj
theorem VRow.mk_ {ks : List PV} {xs : List Value} {b o : Nat} (h : RVals (PV3 X nf nc w) 3 ks xs) (hx : ¬ X b) (hc : ∀ j u, xs[j]? = some u → w.cell? ⟨b, o + j, none⟩ = some u) : VRow X nf nc w (some ⟨b, o, none⟩) ks := by
  refine .inr ⟨b, o, fun i => xs[i * 3]?.getD default, fun i => xs[i * 3 + 1]?.getD default, fun i => xs[i * 3 + 2]?.getD default, rfl, hx, ?_, ?_, ?_, ?_⟩
  all_goals
    intro i hi
    obtain ⟨c, ⟨x0, x1, x2, rfl, hv⟩, -, hj⟩ := h.at_ i hi
    have e0 := hj 0 (by omega)
    have e1 := hj 1 (by omega)
    have e2 := hj 2 (by omega)
    simp only [Nat.add_zero, List.getElem?_cons_zero, List.getElem?_cons_succ] at e0 e1 e2
  · exact (hc _ _ e0).trans (by simp [e0])
  · exact (hc _ _ e1).trans (by simp [e1])
  · exact (hc _ _ e2).trans (by simp [e2])
  · simp only [e0, e1, e2, Option.getD_some]; exact hv
theorem FRow.mk_ {ks : List PFn} {xs : List Value} {b o : Nat} (h : RVals (PF6 B X nf nc w) 6 ks xs) (hx : ¬ X b) (hc : ∀ j u, xs[j]? = some u → w.cell? ⟨b, o + j, none⟩ = some u) : FRow B X nf nc w (some ⟨b, o, none⟩) ks := by
  refine .inr ⟨b, o, fun i => xs[i * 6 + 1]?.getD default, fun i => xs[i * 6 + 2]?.getD default, fun i => xs[i * 6 + 3]?.getD default, fun i => xs[i * 6 + 4]?.getD default, fun i => xs[i * 6 + 5]?.getD default, rfl, hx, ?_, ?_, ?_, ?_, ?_, ?_, ?_⟩
  all_goals
    intro i hi
    obtain ⟨c, ⟨x1, x2, x3, x4, x5, rfl, hv⟩, -, hj⟩ := h.at_ i hi
    have e0 := hj 0 (by omega)
    have e1 := hj 1 (by omega)
    have e2 := hj 2 (by omega)
    have e3 := hj 3 (by omega)
    have e4 := hj 4 (by omega)
    have e5 := hj 5 (by omega)
    simp only [Nat.add_zero, List.getElem?_cons_zero, List.getElem?_cons_succ] at e0 e1 e2 e3 e4 e5
  · exact hc _ _ e0
  · exact (hc _ _ e1).trans (by simp [e1])
  · exact (hc _ _ e2).trans (by simp [e2])
  · exact (hc _ _ e3).trans (by simp [e3])
  · exact (hc _ _ e4).trans (by simp [e4])
  · exact (hc _ _ e5).trans (by simp [e5])
  · simp only [e1, e2, e3, e4, e5, Option.getD_some]; exact hv
theorem ORow.mk_ {ks : List Int} {xs : List Value} {b o : Nat} (h : RVals PI1 1 ks xs) (hB : B ≤ b) (hx : ¬ X b) (hc : ∀ j u, xs[j]? = some u → w.cell? ⟨b, o + j, none⟩ = some u) : ORow B X w (some ⟨b, o, none⟩) ks := by
  refine ⟨fun a ha => by cases ha; exact hB, .inr ⟨b, o, rfl, hx, fun i hi => ?_⟩⟩
  obtain ⟨c, hp, -, hj⟩ := h.at_ i hi
  have e0 := hj 0 (by omega)
  unfold PI1 at hp
  subst hp
  simp only [Nat.add_zero, Nat.mul_one, List.getElem?_cons_zero] at e0
  rw [nth_eq ks hi]
  exact hc _ _ e0
theorem PV3.step {nf' nc' : Nat} {v : PV} {c : List Value} (h : PV3 X nf nc w v c) (hk : KpX X w w') (hf : nf ≤ nf') (hc : nc ≤ nc') : PV3 X nf' nc' w' v c := by
  obtain ⟨a, b, d, e, hv⟩ := h
  exact ⟨a, b, d, e, hv.step hk hf hc⟩
theorem PF6.step {nf' nc' : Nat} {f : PFn} {c : List Value} (h : PF6 B X nf nc w f c) (hk : KpX X w w') (hb : Below B w w') (hf : nf ≤ nf') (hc : nc ≤ nc') : PF6 B X nf' nc' w' f c := by
  obtain ⟨g1, g2, g3, g4, g5, e, h1, h2, h3⟩ := h
  exact ⟨g1, g2, g3, g4, g5, e, h1.kept hb, h2, h3.step hk hf hc⟩
end
end Go.Proofs.YtnolhcdfknjncaaDoor

/-
  The document's run: a function more, a cell more, a cell set, an int printed, in memory.
-/
set_option linter.unusedVariables false
set_option linter.unusedSimpArgs false
namespace Go.Proofs.YtnolhcdfknjncaaDoor
open Go.RowKit

section
variable {X Y : Nat → Prop} {B mb cb : Nat} {inp : List Int} {fuel : FL} {s s1 : St} {cut stk rai : Bool} {x0 x1 x2 : Value} {W W' W1 W2 : World} {o : Out}
/-- the functions as a list of cells -/
theorem RIn.fnsL (h : RIn X B mb cb inp fuel s cut stk rai x0 x1 x2 W) : ∃ Af cf xs, W.heap[cb]? = some (.cells #[.pointer (some ⟨mb, 0, none⟩), .slice Af s.fns.length cf] 61 (0, 0)) ∧ RVals (PF6 B X s.fns.length s.cells.length W) 6 s.fns xs ∧ RowOf W Af xs := by
  obtain ⟨Af, cf, h1, h2, h3⟩ := h.c
  obtain ⟨xs, g1, g2⟩ := h3.list
  exact ⟨Af, cf, xs, h1, g1, g2⟩
theorem RIn.fns_ (h : RIn X B mb cb inp fuel s cut stk rai x0 x1 x2 W) (hX : ∀ k, X k → k < W.heap.size) (hlim : s.fns.length + 1 + 1000 * s.left ≤ 1000 * fuel.lim) {f : PFn} {xs c : List Value} {v : Value} {V1 : World} (hb : Below W.heap.size W V1)
    (hxs : RVals (PF6 B X s.fns.length s.cells.length W) 6 s.fns xs) (hc : PF6 B X s.fns.length s.cells.length W f c) (hown : V1.ownsRow W.heap.size 108 6 v (s.fns.length + 1) (xs ++ c)) :
    RIn X B mb cb inp fuel { s with fns := s.fns ++ [f] } cut stk rai x0 x1 x2 (V1.setCell ⟨cb, 1, none⟩ v) ∧ Stp B mb cb W (V1.setCell ⟨cb, 1, none⟩ v) := by
  obtain ⟨l1, l2⟩ := own_lt h
  obtain ⟨g, cap, rfl, hg, hcap, -, hgl, hcell⟩ := own_cell hown (by omega)
  have h1 := h.below hb
  have hst : Stp B mb cb W (V1.setCell ⟨cb, 1, none⟩ (.slice (some ⟨g, 0, none⟩) (s.fns.length + 1) cap)) := (Stp.below hb h.hBW).trans (Stp.set V1 (.inr rfl) h.hcb 1 _)
  have hkx : KpX X W (V1.setCell ⟨cb, 1, none⟩ (.slice (some ⟨g, 0, none⟩) (s.fns.length + 1) cap)) := hst.kp.mono h.hX
  refine ⟨?_, hst⟩
  obtain ⟨Ai, ci, Ao, co, Ac, cc, m1, m2, m3, m4, m5, m6, m7⟩ := h.m
  obtain ⟨Af, cf, k1, k2, k3⟩ := h.c
  have hlen : (s.fns ++ [f]).length = s.fns.length + 1 := by simp
  refine { h with
    m := ⟨Ai, ci, Ao, co, Ac, cc, ?_, m2.below hst.bel, m3, m4, m5, m6.step hkx, m7.step hkx (by simp) (Nat.le_refl _)⟩
    c := ⟨some ⟨g, 0, none⟩, cap, ?_, by rw [hlen]; exact hcap, ?_⟩
    fnsB := by rw [hlen]; exact hlim }
  · rw [heap_set_ne h.hne]
    exact (hb.block mb l1).trans m1
  · rw [hlen]
    have e : V1.heap[cb]? = _ := (hb.block cb l2).trans k1
    rw [heap_set_self e 1 _]
    rfl
  · refine FRow.mk_ (xs := xs ++ c) ?_ (fun hx => by have := hX g hx; omega) ?_
    · have hh : RVals (PF6 B X s.fns.length s.cells.length W) 6 (s.fns ++ [f]) (xs ++ c) := hxs.app (.single hc (by obtain ⟨_, _, _, _, _, rfl, _⟩ := hc; rfl))
      exact hh.mono fun a c h => h.step hkx hst.bel (by simp) (Nat.le_refl _)
    · intro j u hj
      rw [World.cell?_setCell_far _ _ (⟨g, 0 + j, none⟩ : Addr) _ (show cb ≠ g by omega)]
      exact hcell j u hj
/-- the cells as a list of cells -/
theorem RIn.celL (h : RIn X B mb cb inp fuel s cut stk rai x0 x1 x2 W) : ∃ Ac cc xs, W.cell? ⟨mb, 5, none⟩ = some (.slice Ac s.cells.length cc) ∧ RVals (PV3 X s.fns.length s.cells.length W) 3 s.cells xs ∧ RowOf W Ac xs ∧ VRow X s.fns.length s.cells.length W Ac s.cells := by
  obtain ⟨Ai, ci, Ao, co, Ac, cc, h1, h2, h3, h4, h5, h6, h7⟩ := h.m
  obtain ⟨xs, g1, g2⟩ := h7.list
  exact ⟨Ac, cc, xs, by simp [World.cell?, h1], g1, g2, h7⟩
/-- a row of cells is laid into the run's block -/
theorem RIn.celR (h : RIn X B mb cb inp fuel s cut stk rai x0 x1 x2 W) {V1 : World} (hb : Below W.heap.size W V1) {l : List PV} {A : Option Addr} {cap : Nat} (hl : s.cells.length ≤ l.length) (hcap : l.length ≤ cap) (hlim : l.length + s.left ≤ fuel.lim)
    (hrow : VRow X s.fns.length l.length V1 A l) :
    RIn X B mb cb inp fuel { s with cells := l } cut stk rai x0 x1 x2 (V1.setCell ⟨mb, 5, none⟩ (.slice A l.length cap)) ∧ Stp B mb cb W (V1.setCell ⟨mb, 5, none⟩ (.slice A l.length cap)) := by
  obtain ⟨l1, l2⟩ := own_lt h
  have hst2 : Stp B mb cb V1 (V1.setCell ⟨mb, 5, none⟩ (.slice A l.length cap)) := Stp.set V1 (.inl rfl) h.hmb 5 _
  have hst : Stp B mb cb W (V1.setCell ⟨mb, 5, none⟩ (.slice A l.length cap)) := (Stp.below hb h.hBW).trans hst2
  have hkx : KpX X W (V1.setCell ⟨mb, 5, none⟩ (.slice A l.length cap)) := hst.kp.mono h.hX
  refine ⟨?_, hst⟩
  obtain ⟨Ai, ci, Ao, co, Ac, cc, m1, m2, m3, m4, m5, m6, m7⟩ := h.m
  obtain ⟨Af, cf, k1, k2, k3⟩ := h.c
  refine { h with
    m := ⟨Ai, ci, Ao, co, A, cap, ?_, m2.below hst.bel, m3, m4, hcap, m6.step hkx, hrow.step (hst2.kp.mono h.hX) (Nat.le_refl _) (Nat.le_refl _)⟩
    c := ⟨Af, cf, ?_, k2, k3.step hkx hst.bel (Nat.le_refl _) hl⟩
    celB := hlim }
  · have e : V1.heap[mb]? = _ := (hb.block mb l1).trans m1
    rw [heap_set_self e 5 _]
    rfl
  · rw [heap_set_ne (Ne.symm h.hne)]
    exact (hb.block cb l2).trans k1
theorem RIn.cel_ (h : RIn X B mb cb inp fuel s cut stk rai x0 x1 x2 W) (hX : ∀ k, X k → k < W.heap.size) (hlim : s.cells.length + 1 + s.left ≤ fuel.lim) {a : PV} {xs c : List Value} {v : Value} {V1 : World} (hb : Below W.heap.size W V1)
    (hxs : RVals (PV3 X s.fns.length s.cells.length W) 3 s.cells xs) (hc : PV3 X s.fns.length s.cells.length W a c) (hown : V1.ownsRow W.heap.size 65 3 v (s.cells.length + 1) (xs ++ c)) :
    RIn X B mb cb inp fuel { s with cells := s.cells ++ [a] } cut stk rai x0 x1 x2 (V1.setCell ⟨mb, 5, none⟩ v) ∧ Stp B mb cb W (V1.setCell ⟨mb, 5, none⟩ v) := by
  obtain ⟨g, cap, rfl, hg, hcap, -, hgl, hcell⟩ := own_cell hown (by omega)
  have hlen : (s.cells ++ [a]).length = s.cells.length + 1 := by simp
  have hh : RVals (PV3 X s.fns.length s.cells.length W) 3 (s.cells ++ [a]) (xs ++ c) := hxs.app (.single hc (by obtain ⟨_, _, _, rfl, _⟩ := hc; rfl))
  have := h.celR hb (l := s.cells ++ [a]) (A := some ⟨g, 0, none⟩) (cap := cap) (by simp) (by rw [hlen]; exact hcap) (by rw [hlen]; exact hlim)
    (VRow.mk_ (xs := xs ++ c) (hh.mono fun a c h => h.step (KpX.below hb) (Nat.le_refl _) (by simp)) (fun hx => by have := hX g hx; omega) hcell)
  rw [hlen] at this
  exact this
/-- what was printed, as a list of cells -/
theorem RIn.outL (h : RIn X B mb cb inp fuel s cut stk rai x0 x1 x2 W) : ∃ Ao co xs, W.cell? ⟨mb, 4, none⟩ = some (.slice Ao s.out.length co) ∧ RVals PI1 1 s.out xs ∧ RowOf W Ao xs := by
  obtain ⟨Ai, ci, Ao, co, Ac, cc, h1, h2, h3, h4, h5, h6, h7⟩ := h.m
  obtain ⟨xs, g1, g2⟩ := h6.list
  exact ⟨Ao, co, xs, by simp [World.cell?, h1], g1, g2⟩
theorem RIn.out_ (h : RIn X B mb cb inp fuel s cut stk rai x0 x1 x2 W) (hX : ∀ k, X k → k < W.heap.size) (hlim : s.out.length + 1 + s.left ≤ fuel.lim) {n : Int} {xs c : List Value} {v : Value} {V1 : World} (hb : Below W.heap.size W V1)
    (hxs : RVals PI1 1 s.out xs) (hc : PI1 n c) (hown : V1.ownsRow W.heap.size 3 1 v (s.out.length + 1) (xs ++ c)) :
    RIn X B mb cb inp fuel { s with out := s.out ++ [n] } cut stk rai x0 x1 x2 (V1.setCell ⟨mb, 4, none⟩ v) ∧ Stp B mb cb W (V1.setCell ⟨mb, 4, none⟩ v) := by
  obtain ⟨l1, l2⟩ := own_lt h
  obtain ⟨g, cap, rfl, hg, hcap, -, hgl, hcell⟩ := own_cell hown (by omega)
  have hst2 : Stp B mb cb V1 (V1.setCell ⟨mb, 4, none⟩ (.slice (some ⟨g, 0, none⟩) (s.out.length + 1) cap)) := Stp.set V1 (.inl rfl) h.hmb 4 _
  have hst : Stp B mb cb W (V1.setCell ⟨mb, 4, none⟩ (.slice (some ⟨g, 0, none⟩) (s.out.length + 1) cap)) := (Stp.below hb h.hBW).trans hst2
  have hkx : KpX X W (V1.setCell ⟨mb, 4, none⟩ (.slice (some ⟨g, 0, none⟩) (s.out.length + 1) cap)) := hst.kp.mono h.hX
  refine ⟨?_, hst⟩
  obtain ⟨Ai, ci, Ao, co, Ac, cc, m1, m2, m3, m4, m5, m6, m7⟩ := h.m
  obtain ⟨Af, cf, k1, k2, k3⟩ := h.c
  have hlen : (s.out ++ [n]).length = s.out.length + 1 := by simp
  have hBg : B ≤ g := Nat.le_trans h.hBW hg
  refine { h with
    m := ⟨Ai, ci, some ⟨g, 0, none⟩, cap, Ac, cc, ?_, m2.below hst.bel, m3, by rw [hlen]; exact hcap, m5, ?_, m7.step hkx (Nat.le_refl _) (Nat.le_refl _)⟩
    c := ⟨Af, cf, ?_, k2, k3.step hkx hst.bel (Nat.le_refl _) (Nat.le_refl _)⟩
    outB := by rw [hlen]; exact hlim }
  · have e : V1.heap[mb]? = _ := (hb.block mb l1).trans m1
    rw [heap_set_self e 4 _, hlen]
    rfl
  · refine ORow.mk_ (xs := xs ++ c) (hxs.app (.single hc (by unfold PI1 at hc; subst hc; rfl))) hBg (fun hx => by have := hX g hx; omega) ?_
    intro j u hj
    rw [World.cell?_setCell_far _ _ (⟨g, 0 + j, none⟩ : Addr) _ (show mb ≠ g by omega)]
    exact hcell j u hj
  · rw [heap_set_ne (Ne.symm h.hne)]
    exact (hb.block cb l2).trans k1
end
end Go.Proofs.YtnolhcdfknjncaaDoor
