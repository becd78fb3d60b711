/-
 5 texts of this seat in one: FV1 FV2 FV3 FV4 FV5.
-/
import Derived.Test.YtnobggabjpcbfaaGreatQI21
import Derived.RangeFuncOwn
set_option maxRecDepth 100000
set_option maxHeartbeats 16000000
set_option linter.unusedVariables false
set_option linter.unusedSimpArgs false
namespace Go.Proofs.YtnobggabjpcbfaaGreat
open Go.RowKit
theorem truth_any (b : Bool) (w : World) : Calls Tryz.prog 98 #[.bool b] w fun e w' => e = .returned (.int .i64 (if b then 1 else 0)) ∧ w = w' := by
 cases b
 all_goals
  go_enter Tryz.func98, Tryz.ntmps98
  go_wp2
  go_ret
  exact ⟨rfl, rfl⟩
theorem rdo_small (p a b : Int) (hp : p = 1 ∨ p = 2 ∨ p = 3) (w : World) : Calls Tryz.prog 91 #[.int .i64 p, .int .i64 a, .int .i64 b] w (DoPost p a b w) := by
 rcases hp with rfl | rfl | rfl
 all_goals
  go_enter Tryz.func91, Tryz.ntmps91
  go_wp2_with (first | (go_at_call 23; refine (rwrap_any _ _).mono ?_; rintro e w' ⟨rfl, rfl⟩) | (go_at_call 98; refine (truth_any _ _).mono ?_; rintro e w' ⟨rfl, rfl⟩))
  go_ret2
  first | exact .inl ⟨_, doP_1 a b, tup_int (by rw [wrap31_wrap64]) rfl, Below.refl _ _⟩ | exact .inl ⟨_, doP_2 a b, tup_int (by rw [wrap31_wrap64]) rfl, Below.refl _ _⟩ | exact .inl ⟨_, doP_3 a b, tup_int (by rw [wrap31_wrap64]) rfl, Below.refl _ _⟩
theorem rdo_div (p a b : Int) (hp : p = 4 ∨ p = 5) (w : World) : Calls Tryz.prog 91 #[.int .i64 p, .int .i64 a, .int .i64 b] w (DoPost p a b w) := by
 by_cases hb : wrap31 b = 0
 · have hd : doP p a b = none := by simp [doP, hb, hp]
   have hb' : (wrap31 b == 0) = true := by simpa using hb
   have HD := Lib.hid hd
   clear hd
   rcases hp with rfl | rfl
   all_goals
    go_enter Tryz.func91, Tryz.ntmps91
    go_wp2_with (first | (go_at_call 23; refine (rwrap_any _ _).mono ?_; rintro e w' ⟨rfl, rfl⟩) | (go_at_call 98; refine (truth_any _ _).mono ?_; rintro e w' ⟨rfl, rfl⟩))
    go_ret2
    exact .inr ⟨HD.out, rfl, Below.refl _ _⟩
 · have hb' : (wrap31 b == 0) = false := by simpa using hb
   rcases hp with rfl | rfl
   all_goals
    go_enter Tryz.func91, Tryz.ntmps91
    go_wp2_with (first | (go_at_call 23; refine (rwrap_any _ _).mono ?_; rintro e w' ⟨rfl, rfl⟩) | (go_at_call 98; refine (truth_any _ _).mono ?_; rintro e w' ⟨rfl, rfl⟩))
    go_ret2
    first | exact .inl ⟨_, doP_4 a b hb, tup_int (by first | rw [wrap31_wrap64] | rfl) rfl, Below.refl _ _⟩ | exact .inl ⟨_, doP_5 a b hb, tup_int (by first | rw [wrap31_wrap64] | rfl) rfl, Below.refl _ _⟩
theorem rdo_cmp (p a b : Int) (hp : p = 6 ∨ p = 7 ∨ p = 8 ∨ p = 9) (w : World) : Calls Tryz.prog 91 #[.int .i64 p, .int .i64 a, .int .i64 b] w (DoPost p a b w) := by
 have HT := Lib.hid truth_any
 rcases hp with rfl | rfl | rfl | rfl
 all_goals
  go_enter Tryz.func91, Tryz.ntmps91
  go_wp2_with (first | (go_at_call 23; refine (rwrap_any _ _).mono ?_; rintro e w' ⟨rfl, rfl⟩) | (go_at_call 98; refine (truth_any _ _).mono ?_; rintro e w' ⟨rfl, rfl⟩))
  all_goals
   go_ret2
   first
    | exact .inl ⟨_, doP_6 a b, tup_int (by first | exact if_beq _ _ | simp_all [wrap31]) rfl, Below.refl _ _⟩
    | exact .inl ⟨_, doP_7 a b, tup_int (by first | exact if_bne _ _ | simp_all [wrap31]) rfl, Below.refl _ _⟩
    | exact .inl ⟨_, doP_8 a b, tup_int (by first | exact if_bool _ | (rw [if_pos (by omega)]; rfl) | (rw [if_neg (by omega)]; rfl)) rfl, Below.refl _ _⟩
    | exact .inl ⟨_, doP_9 a b, tup_int (by first | exact if_bool _ | (rw [if_pos (by omega)]; rfl) | (rw [if_neg (by omega)]; rfl)) rfl, Below.refl _ _⟩
theorem rdo_any (p a b : Int) (h1 : 1 ≤ p) (h2 : p ≤ 9) (w : World) : Calls Tryz.prog 91 #[.int .i64 p, .int .i64 a, .int .i64 b] w (DoPost p a b w) := by
 by_cases h3 : p = 1 ∨ p = 2 ∨ p = 3
 · exact rdo_small p a b h3 w
 by_cases h4 : p = 4 ∨ p = 5
 · exact rdo_div p a b h4 w
 exact rdo_cmp p a b (by omega) w
end Go.Proofs.YtnobggabjpcbfaaGreat
namespace Go.Proofs.YtnobggabjpcbfaaGreat
open Go.RowKit
structure KpX (X : Nat → Prop) (W W' : World) : Prop where
 size : W.heap.size ≤ W'.heap.size
 same : ∀ (k : Nat) (o : Obj), W.heap[k]? = some o → o.isCells = true → ¬ X k → W'.heap[k]? = some o
theorem KpX.refl (X : Nat → Prop) (W : World) : KpX X W W := ⟨Nat.le_refl _, fun _ _ h _ _ => h⟩
theorem KpX.trans {X : Nat → Prop} {A B C : World} (h : KpX X A B) (k : KpX X B C) : KpX X A C := ⟨Nat.le_trans h.size k.size, fun i o hi hc hx => k.same i o (h.same i o hi hc hx) hc hx⟩
theorem KpX.cell {X : Nat → Prop} {W W' : World} (h : KpX X W W') {b o : Nat} {v : Value} (hc : W.cell? ⟨b, o, none⟩ = some v) (hx : ¬ X b) : W'.cell? ⟨b, o, none⟩ = some v := by
 obtain ⟨ob, ho, hcc⟩ := cells_of_cell hc
 exact (World.cell?_of_block ((h.same b ob ho hcc hx).trans ho.symm)).trans hc
theorem KpX.setCell {X : Nat → Prop} (W : World) {b : Nat} (o : Nat) (v : Value) (hx : X b) : KpX X W (W.setCell ⟨b, o, none⟩ v) :=
 ⟨by simp [World.setCell], fun k ob hk _ hxk => (Below.heap_setCell W _ _ k (fun e => hxk (by subst e; exact hx))).trans hk⟩
theorem KpX.below {X : Nat → Prop} {W W' : World} (h : Below W.heap.size W W') : KpX X W W' := ⟨h.size, fun k o hk _ _ => (h.block k (Array.getElem?_eq_some_iff.1 hk).1).trans hk⟩
def Own2 (mb cb : Nat) (k : Nat) : Prop := k = mb ∨ k = cb
theorem _root_.Go.Proofs.YtnobggabjpcbfaaGreat.KpX.mono {X Y : Nat → Prop} {W W' : World} (h : KpX X W W') (hs : ∀ k, X k → Y k) : KpX Y W W' := ⟨h.size, fun i o hi hc hx => h.same i o hi hc (fun e => hx (hs i e))⟩
structure Stp (B mb cb : Nat) (W W' : World) : Prop where
 bel : Below B W W'
 kp : KpX (Own2 mb cb) W W'
section
variable {B mb cb : Nat} {W W' W2 : World}
theorem Stp.refl (W : World) : Stp B mb cb W W := ⟨Below.refl _ _, KpX.refl _ _⟩
theorem Stp.trans (h : Stp B mb cb W W') (k : Stp B mb cb W' W2) : Stp B mb cb W W2 := ⟨h.bel.trans k.bel, h.kp.trans k.kp⟩
theorem Stp.set (W : World) {b : Nat} (hb : Own2 mb cb b) (hB : B ≤ b) (i : Nat) (x : Value) : Stp B mb cb W (W.setCell ⟨b, i, none⟩ x) := ⟨(Below.refl _ _).setCell (p := ⟨b, i, none⟩) hB x, KpX.setCell W i x hb⟩
theorem KpX.setNew {X : Nat → Prop} {W W' : World} (h : KpX X W W') {b : Nat} (hb : W.heap.size ≤ b) (i : Nat) (x : Value) : KpX X W (W'.setCell ⟨b, i, none⟩ x) :=
 ⟨by simpa [World.setCell] using h.size, fun k o hk hc hx => (Below.heap_setCell W' ⟨b, i, none⟩ x k (by
  have := (Array.getElem?_eq_some_iff.1 hk).1
  show k ≠ b; omega)).trans (h.same k o hk hc hx)⟩
theorem Stp.setNew (h : Stp B mb cb W W') {b : Nat} (hb : W.heap.size ≤ b) (hB : B ≤ W.heap.size) (i : Nat) (x : Value) : Stp B mb cb W (W'.setCell ⟨b, i, none⟩ x) :=
 ⟨h.bel.trans ((Below.refl _ _).setCell (p := ⟨b, i, none⟩) (by show B ≤ b; omega) x), h.kp.setNew hb i x⟩
theorem box_at {X : Nat → Prop} {W W' : World} (h : KpX X W W') {b : Nat} {x y z : Value} {T : TypeId} (hb : W.heap[b]? = some (.cells #[x, y, z] T (0, 0))) (hx : ¬ X b) : W'.cell? ⟨b, 0, none⟩ = some x ∧ W'.cell? ⟨b, 1, none⟩ = some y ∧ W'.cell? ⟨b, 2, none⟩ = some z ∧ (∀ i, W'.frozen? ⟨b, i, none⟩ = false) := by
 have h2 := h.same b _ hb rfl hx
 exact ⟨by simp [World.cell?, h2], by simp [World.cell?, h2], by simp [World.cell?, h2], fun i => by simp [World.frozen?, h2]⟩
theorem Stp.below (h : Below W.heap.size W W') (hB : B ≤ W.heap.size) : Stp B mb cb W W' := ⟨h.mono hB, KpX.below h⟩
end
inductive VIn (X : Nat → Prop) (nf nc : Nat) (w : World) : PV → Value → Value → Value → Prop
 | int (n : Int) : VIn X nf nc w (.int n) (.int .i64 1) (.int .i64 n) (.slice none 0 0)
 | fn (i : Nat) (h : i < nf) : VIn X nf nc w (.fn i) (.int .i64 3) (.int .i64 (i : Int)) (.slice none 0 0)
 | ref (i : Nat) (h : i < nc) : VIn X nf nc w (.ref i) (.int .i64 4) (.int .i64 (i : Int)) (.slice none 0 0)
 | blk (t : Int) (ks : List PV) (A : Option Addr) (c : Nat) (b o : Nat) (G0 G1 G2 : Nat → Value) (hl : ks.length ≤ c) (hb : ks.length ≤ 1000000) (hA : 0 < ks.length → A = some ⟨b, o, none⟩ ∧ ¬ X b)
  (c0 : ∀ i, i < ks.length → w.cell? ⟨b, o + i * 3, none⟩ = some (G0 i)) (c1 : ∀ i, i < ks.length → w.cell? ⟨b, o + i * 3 + 1, none⟩ = some (G1 i)) (c2 : ∀ i, i < ks.length → w.cell? ⟨b, o + i * 3 + 2, none⟩ = some (G2 i))
  (hsub : ∀ i (h : i < ks.length), VIn X nf nc w ks[i] (G0 i) (G1 i) (G2 i)) :
  VIn X nf nc w (.blk t ks) (.int .i64 2) (.int .i64 t) (.slice A ks.length c)
section
variable {X : Nat → Prop} {nf nc nf' nc' : Nat} {w w' : World}
theorem VIn.step {v : PV} {a b c : Value} (h : VIn X nf nc w v a b c) (hk : KpX X w w') (hf : nf ≤ nf') (hc : nc ≤ nc') : VIn X nf' nc' w' v a b c := by
 induction h with
 | int n => exact .int n
 | fn i h => exact .fn i (by omega)
 | ref i h => exact .ref i (by omega)
 | blk t ks A c b o G0 G1 G2 hl hb hA c0 c1 c2 hsub ih =>
  exact .blk t ks A c b o G0 G1 G2 hl hb hA (fun i hi => hk.cell (c0 i hi) (hA (by omega)).2) (fun i hi => hk.cell (c1 i hi) (hA (by omega)).2) (fun i hi => hk.cell (c2 i hi) (hA (by omega)).2) ih
theorem VIn.shape {v : PV} {a b c : Value} (h : VIn X nf nc w v a b c) : ∃ k n A l d, a = .int .i64 k ∧ b = .int .i64 n ∧ c = .slice A l d := by
 cases h <;> exact ⟨_, _, _, _, _, rfl, rfl, rfl⟩
theorem lt_of_cell {w : World} {b o : Nat} {v : Value} (h : w.cell? ⟨b, o, none⟩ = some v) : b < w.heap.size := by
 rcases Nat.lt_or_ge b w.heap.size with h1 | h1
 · exact h1
 · rw [World.cell?, Array.getElem?_eq_none h1] at h; cases h
theorem VIn.more {Y : Nat → Prop} {v : PV} {a b c : Value} (h : VIn X nf nc w v a b c) (hs : ∀ k, Y k → X k ∨ w.heap.size ≤ k) : VIn Y nf nc w v a b c := by
 induction h with
 | int n => exact .int n
 | fn i h => exact .fn i h
 | ref i h => exact .ref i h
 | blk t ks A c b o G0 G1 G2 hl hb hA c0 c1 c2 hsub ih =>
  refine .blk t ks A c b o G0 G1 G2 hl hb (fun h0 => ⟨(hA h0).1, fun hy => ?_⟩) c0 c1 c2 ih
  rcases hs b hy with h | h
  · exact (hA h0).2 h
  · have := lt_of_cell (c0 0 h0); omega
def VRow (X : Nat → Prop) (nf nc : Nat) (w : World) (A : Option Addr) (ks : List PV) : Prop :=
 ks = [] ∨ ∃ (b o : Nat) (G0 G1 G2 : Nat → Value), A = some ⟨b, o, none⟩ ∧ ¬ X b ∧ (∀ i, i < ks.length → w.cell? ⟨b, o + i * 3, none⟩ = some (G0 i)) ∧ (∀ i, i < ks.length → w.cell? ⟨b, o + i * 3 + 1, none⟩ = some (G1 i)) ∧ (∀ i, i < ks.length → w.cell? ⟨b, o + i * 3 + 2, none⟩ = some (G2 i)) ∧
  ∀ i (h : i < ks.length), VIn X nf nc w ks[i] (G0 i) (G1 i) (G2 i)
theorem VRow.step {A : Option Addr} {ks : List PV} (h : VRow X nf nc w A ks) (hk : KpX X w w') (hf : nf ≤ nf') (hc : nc ≤ nc') : VRow X nf' nc' w' A ks := by
 rcases h with h | ⟨b, o, G0, G1, G2, hA, hx, c0, c1, c2, hs⟩
 · exact .inl h
 · exact .inr ⟨b, o, G0, G1, G2, hA, hx, fun i hi => hk.cell (c0 i hi) hx, fun i hi => hk.cell (c1 i hi) hx, fun i hi => hk.cell (c2 i hi) hx, fun i hi => (hs i hi).step hk hf hc⟩
theorem VRow.more {Y : Nat → Prop} {A : Option Addr} {ks : List PV} (h : VRow X nf nc w A ks) (hs : ∀ k, Y k → X k ∨ w.heap.size ≤ k) : VRow Y nf nc w A ks := by
 rcases h with h | ⟨b, o, G0, G1, G2, hA, hx, c0, c1, c2, hsub⟩
 · exact .inl h
 · rcases Nat.eq_zero_or_pos ks.length with h0 | h0
   · exact .inl (List.eq_nil_of_length_eq_zero h0)
   refine .inr ⟨b, o, G0, G1, G2, hA, fun hy => ?_, c0, c1, c2, fun i hi => (hsub i hi).more hs⟩
   rcases hs b hy with h | h
   · exact hx h
   · have := lt_of_cell (c0 0 h0); omega
theorem VRow.at_ {A : Option Addr} {ks : List PV} (h : VRow X nf nc w A ks) {i : Nat} (hi : i < ks.length) : ∃ b o a0 a1 a2, A = some ⟨b, o, none⟩ ∧ w.cell? ⟨b, o + i * 3, none⟩ = some a0 ∧ w.cell? ⟨b, o + i * 3 + 1, none⟩ = some a1 ∧ w.cell? ⟨b, o + i * 3 + 2, none⟩ = some a2 ∧ VIn X nf nc w ks[i] a0 a1 a2 := by
 rcases h with h | ⟨b, o, G0, G1, G2, hA, hx, c0, c1, c2, hs⟩
 · subst h; simp at hi
 · exact ⟨b, o, G0 i, G1 i, G2 i, hA, c0 i hi, c1 i hi, c2 i hi, hs i hi⟩
theorem VIn.row {t : Int} {ks : List PV} {a b c : Value} (h : VIn X nf nc w (.blk t ks) a b c) : ∃ A d, a = .int .i64 2 ∧ b = .int .i64 t ∧ c = .slice A ks.length d ∧ ks.length ≤ d ∧ ks.length ≤ 1000000 ∧ VRow X nf nc w A ks := by
 cases h with
 | blk t ks A c b o G0 G1 G2 hl hb hA c0 c1 c2 hsub =>
  refine ⟨A, c, rfl, rfl, rfl, hl, hb, ?_⟩
  by_cases h0 : 0 < ks.length
  · exact .inr ⟨b, o, G0, G1, G2, (hA h0).1, (hA h0).2, c0, c1, c2, hsub⟩
  · exact .inl (List.eq_nil_of_length_eq_zero (by omega))
theorem VRow.val {t : Int} {ks : List PV} {A : Option Addr} {d : Nat} (h : VRow X nf nc w A ks) (hd : ks.length ≤ d) (hb : ks.length ≤ 1000000) : VIn X nf nc w (.blk t ks) (.int .i64 2) (.int .i64 t) (.slice A ks.length d) := by
 rcases h with h | ⟨b, o, G0, G1, G2, hA, hx, c0, c1, c2, hs⟩
 · subst h
   exact .blk t [] A d 0 0 (fun _ => .nilIface) (fun _ => .nilIface) (fun _ => .nilIface) hd (by simp) (by simp) (by simp) (by simp) (by simp) (by intro i h; simp at h)
 · exact .blk t ks A d b o G0 G1 G2 hd hb (fun _ => ⟨hA, hx⟩) c0 c1 c2 hs
inductive EIn (X : Nat → Prop) (nf nc : Nat) (w : World) : PEnv → Value → Prop
 | nil : EIn X nf nc w [] (.pointer none)
 | cons (x : Int) (v : PV) (e : PEnv) (b : Nat) (a0 a1 a2 up : Value) (hx : ¬ X b) (c0 : w.cell? ⟨b, 0, none⟩ = some (.int .i64 x)) (c1 : w.cell? ⟨b, 1, none⟩ = some a0) (c2 : w.cell? ⟨b, 2, none⟩ = some a1) (c3 : w.cell? ⟨b, 3, none⟩ = some a2) (c4 : w.cell? ⟨b, 4, none⟩ = some up)
  (hv : VIn X nf nc w v a0 a1 a2) (he : EIn X nf nc w e up) : EIn X nf nc w ((x, v) :: e) (.pointer (some ⟨b, 0, none⟩))
theorem EIn.step {e : PEnv} {p : Value} (h : EIn X nf nc w e p) (hk : KpX X w w') (hf : nf ≤ nf') (hc : nc ≤ nc') : EIn X nf' nc' w' e p := by
 induction h with
 | nil => exact .nil
 | cons x v e b a0 a1 a2 up hx c0 c1 c2 c3 c4 hv he ih => exact .cons x v e b a0 a1 a2 up hx (hk.cell c0 hx) (hk.cell c1 hx) (hk.cell c2 hx) (hk.cell c3 hx) (hk.cell c4 hx) (hv.step hk hf hc) ih
theorem EIn.more {Y : Nat → Prop} {e : PEnv} {p : Value} (h : EIn X nf nc w e p) (hs : ∀ k, Y k → X k ∨ w.heap.size ≤ k) : EIn Y nf nc w e p := by
 induction h with
 | nil => exact .nil
 | cons x v e b a0 a1 a2 up hx c0 c1 c2 c3 c4 hv he ih =>
  refine .cons x v e b a0 a1 a2 up (fun hy => ?_) c0 c1 c2 c3 c4 (hv.more hs) ih
  rcases hs b hy with h | h
  · exact hx h
  · have := lt_of_cell c0; omega
theorem EIn.shape {e : PEnv} {p : Value} (h : EIn X nf nc w e p) : ∃ q, p = .pointer q := by
 cases h <;> exact ⟨_, rfl⟩
end
end Go.Proofs.YtnobggabjpcbfaaGreat
namespace Go.Proofs.YtnobggabjpcbfaaGreat
open Go.RowKit
def HIn (X : Nat → Prop) (nf nc : Nat) (w : World) (l : List PV) (v : Value) : Prop := ∃ A c, v = .slice A l.length c ∧ l.length ≤ c ∧ l.length ≤ 1000000 ∧ VRow X nf nc w A l
def CRow (X : Nat → Prop) (nf nc : Nat) (w : World) (A : Option Addr) (ms : List (Int × List PV)) : Prop :=
 ms = [] ∨ ∃ (b o : Nat) (G : Nat → Value), A = some ⟨b, o, none⟩ ∧ ¬ X b ∧ (∀ i (h : i < ms.length), w.cell? ⟨b, o + i * 2, none⟩ = some (.int .i64 ms[i].1)) ∧ (∀ i, i < ms.length → w.cell? ⟨b, o + i * 2 + 1, none⟩ = some (G i)) ∧
  ∀ i (h : i < ms.length), HIn X nf nc w ms[i].2 (G i)
def Clo (X : Nat → Prop) (B mb cb : Nat) (fv : Value) (ms : List (Int × List PV)) (nf nc : Nat) (w : World) : Prop :=
 ∃ Af cf, w.heap[cb]? = some (.cells #[.pointer (some ⟨mb, 0, none⟩), fv, .slice Af ms.length cf] 79 (0, 0)) ∧ ms.length ≤ cf ∧ CRow X nf nc w Af ms
section
variable {B mb cb : Nat} {fv : Value} {X : Nat → Prop} {nf nc nf' nc' : Nat} {w w' : World} {ms : List (Int × List PV)}
theorem HIn.step {l : List PV} {v : Value} (h : HIn X nf nc w l v) (hk : KpX X w w') (hf : nf ≤ nf') (hc : nc ≤ nc') : HIn X nf' nc' w' l v := by
 obtain ⟨A, c, e, h1, h2, h3⟩ := h
 exact ⟨A, c, e, h1, h2, h3.step hk hf hc⟩
theorem HIn.more {Y : Nat → Prop} {l : List PV} {v : Value} (h : HIn X nf nc w l v) (hs : ∀ k, Y k → X k ∨ w.heap.size ≤ k) : HIn Y nf nc w l v := by
 obtain ⟨A, c, e, h1, h2, h3⟩ := h
 exact ⟨A, c, e, h1, h2, h3.more hs⟩
theorem CRow.step {A : Option Addr} (h : CRow X nf nc w A ms) (hk : KpX X w w') (hf : nf ≤ nf') (hc : nc ≤ nc') : CRow X nf' nc' w' A ms := by
 rcases h with h | ⟨b, o, G, hA, hx, c0, c1, hs⟩
 · exact .inl h
 · exact .inr ⟨b, o, G, hA, hx, fun i hi => hk.cell (c0 i hi) hx, fun i hi => hk.cell (c1 i hi) hx, fun i hi => (hs i hi).step hk hf hc⟩
theorem CRow.more {Y : Nat → Prop} {A : Option Addr} (h : CRow X nf nc w A ms) (hs : ∀ k, Y k → X k ∨ w.heap.size ≤ k) : CRow Y nf nc w A ms := by
 rcases h with h | ⟨b, o, G, hA, hx, c0, c1, hsub⟩
 · exact .inl h
 · rcases Nat.eq_zero_or_pos ms.length with h0 | h0
   · exact .inl (List.eq_nil_of_length_eq_zero h0)
   refine .inr ⟨b, o, G, hA, fun hy => ?_, c0, c1, fun i hi => (hsub i hi).more hs⟩
   rcases hs b hy with h | h
   · exact hx h
   · have := lt_of_cell (c0 0 h0); omega
theorem CRow.at_ {A : Option Addr} (h : CRow X nf nc w A ms) {i : Nat} (hi : i < ms.length) : ∃ b o g, A = some ⟨b, o, none⟩ ∧ w.cell? ⟨b, o + i * 2, none⟩ = some (.int .i64 ms[i].1) ∧ w.cell? ⟨b, o + i * 2 + 1, none⟩ = some g ∧ HIn X nf nc w ms[i].2 g := by
 rcases h with h | ⟨b, o, G, hA, hx, c0, c1, hs⟩
 · subst h; simp at hi
 · exact ⟨b, o, _, hA, c0 i hi, c1 i hi, hs i hi⟩
theorem Clo.step (h : Clo X B mb cb fv ms nf nc w) (hk : KpX X w w') (hb : Below B w w') (hc : w'.heap[cb]? = w.heap[cb]?) (hf : nf ≤ nf') (hn : nc ≤ nc') : Clo X B mb cb fv ms nf' nc' w' := by
 obtain ⟨Af, cf, h1, h2, h3⟩ := h
 exact ⟨Af, cf, hc.trans h1, h2, h3.step hk hf hn⟩
theorem Clo.more {Y : Nat → Prop} (h : Clo X B mb cb fv ms nf nc w) (hs : ∀ k, Y k → X k ∨ w.heap.size ≤ k) : Clo Y B mb cb fv ms nf nc w := by
 obtain ⟨Af, cf, h1, h2, h3⟩ := h
 exact ⟨Af, cf, h1, h2, h3.more hs⟩
theorem Clo.lt (h : Clo X B mb cb fv ms nf nc w) : cb < w.heap.size := by
 obtain ⟨Af, cf, h1, -⟩ := h
 exact (Array.getElem?_eq_some_iff.1 h1).1
theorem Clo.ptr (h : Clo X B mb cb fv ms nf nc w) : w.cell? ⟨cb, 0, none⟩ = some (.pointer (some ⟨mb, 0, none⟩)) := by
 obtain ⟨Af, cf, h1, -⟩ := h
 simp [World.cell?, h1]
end
def ORow (B : Nat) (X : Nat → Prop) (w : World) (A : Option Addr) (ks : List Int) : Prop :=
 (∀ a, A = some a → B ≤ a.block) ∧ (ks = [] ∨ ∃ b o, A = some ⟨b, o, none⟩ ∧ ¬ X b ∧ ∀ j, j < ks.length → w.cell? ⟨b, o + j, none⟩ = some (.int .i64 (nth ks j)))
section
variable {B mb cb : Nat} {X : Nat → Prop} {nf nc nf' nc' : Nat} {w w' : World}
theorem ORow.more {Y : Nat → Prop} {A : Option Addr} {ks : List Int} (h : ORow B X w A ks) (hs : ∀ k, Y k → X k ∨ w.heap.size ≤ k) : ORow B Y w A ks := by
 refine ⟨h.1, ?_⟩
 rcases h.2 with h2 | ⟨b, o, hA, hx, hc⟩
 · exact .inl h2
 · rcases Nat.eq_zero_or_pos ks.length with h0 | h0
   · exact .inl (List.eq_nil_of_length_eq_zero h0)
   refine .inr ⟨b, o, hA, fun hy => ?_, hc⟩
   rcases hs b hy with h | h
   · exact hx h
   · have := lt_of_cell (hc 0 h0); omega
theorem ORow.step {A : Option Addr} {ks : List Int} (h : ORow B X w A ks) (hk : KpX X w w') : ORow B X w' A ks :=
 ⟨h.1, h.2.imp id (fun ⟨b, o, hA, hx, hc⟩ => ⟨b, o, hA, hx, fun j hj => hk.cell (hc j hj) hx⟩)⟩
end
structure FL where
 f : Nat
 lim : Nat
abbrev FL.up (fuel : FL) : FL := ⟨fuel.f, fuel.lim + 1⟩
structure RIn (X : Nat → Prop) (B mb cb : Nat) (fv : Value) (inp : List Int) (fuel : FL) (s : FSt) (cut stk rai : Bool) (x0 x1 x2 : Value) (W : World) : Prop where
 hmb : B ≤ mb
 hcb : B ≤ cb
 hne : mb ≠ cb
 hX : ∀ k, Own2 mb cb k → X k
 m : ∃ Ai ci Ao co Ac cc, W.heap[mb]? = some (.cells #[.slice Ai inp.length ci, .int .i64 (s.asked : Int), .int .i64 (fuel.f : Int), .int .i64 ((fuel.f : Int) - (s.left : Int)), .slice Ao s.out.length co, .slice Ac s.cells.length cc, .bool cut, .bool stk, .bool rai, x0, x1, x2] 48 (0, 0)) ∧
  IntsIn B W Ai inp ∧ inp.length ≤ ci ∧ s.out.length ≤ co ∧ s.cells.length ≤ cc ∧ ORow B X W Ao s.out ∧ VRow X s.made.length s.cells.length W Ac s.cells
 c : Clo X B mb cb fv s.made s.made.length s.cells.length W
 left : s.left ≤ fuel.f
 fuelB : fuel.f ≤ 1000000
 limB : fuel.lim ≤ fuel.f
 inpB : inp.length ≤ 4096
 askB : s.asked + s.left ≤ fuel.lim
 outB : s.out.length + s.left ≤ fuel.lim
 celB : s.cells.length + s.left ≤ fuel.lim
 fnsB : s.made.length + 1000 * s.left ≤ 1000 * fuel.lim
section
variable {X : Nat → Prop} {B mb cb : Nat} {fv : Value} {inp : List Int} {fuel : FL} {s : FSt} {cut stk rai : Bool} {x0 x1 x2 : Value} {W W' : World}
theorem own_lt (h : RIn X B mb cb fv inp fuel s cut stk rai x0 x1 x2 W) : mb < W.heap.size ∧ cb < W.heap.size := by
 obtain ⟨_, _, _, _, _, _, h1, _⟩ := h.m
 exact ⟨(Array.getElem?_eq_some_iff.1 h1).1, h.c.lt⟩
theorem RIn.lim_ {l : Nat} (h : RIn X B mb cb fv inp fuel s cut stk rai x0 x1 x2 W) (h1 : fuel.lim ≤ l) (h2 : l ≤ fuel.f) : RIn X B mb cb fv inp ⟨fuel.f, l⟩ s cut stk rai x0 x1 x2 W := by
 have := h.askB
 have := h.outB
 have := h.celB
 have := h.fnsB
 exact { h with
  limB := h2
  askB := by show _ ≤ l; omega
  outB := by show _ ≤ l; omega
  celB := by show _ ≤ l; omega
  fnsB := by show _ ≤ 1000 * l; omega }
theorem RIn.more {Y : Nat → Prop} (h : RIn X B mb cb fv inp fuel s cut stk rai x0 x1 x2 W) (hs : ∀ k, Y k → X k ∨ W.heap.size ≤ k) (hY : ∀ k, Own2 mb cb k → Y k) : RIn Y B mb cb fv inp fuel s cut stk rai x0 x1 x2 W := by
 obtain ⟨Ai, ci, Ao, co, Ac, cc, h1, h2, h3, h4, h5, h6, h7⟩ := h.m
 have k := h.c
 exact { h with
  hX := hY
  m := ⟨Ai, ci, Ao, co, Ac, cc, h1, h2, h3, h4, h5, h6.more hs, h7.more hs⟩
  c := k.more hs }
theorem RIn.hid_ {b : Nat} (h : RIn X B mb cb fv inp fuel s cut stk rai x0 x1 x2 W) (hb : X b) (hB : B ≤ b) (h1 : b ≠ mb) (h2 : b ≠ cb) (i : Nat) (x : Value) : RIn X B mb cb fv inp fuel s cut stk rai x0 x1 x2 (W.setCell ⟨b, i, none⟩ x) := by
 obtain ⟨Ai, ci, Ao, co, Ac, cc, h1', h2', h3, h4, h5, h6, h7⟩ := h.m
 have k := h.c
 have hk : KpX X W (W.setCell ⟨b, i, none⟩ x) := KpX.setCell W i x hb
 have hbel : Below B W (W.setCell ⟨b, i, none⟩ x) := (Below.refl _ _).setCell (p := ⟨b, i, none⟩) hB x
 exact { h with
  m := ⟨Ai, ci, Ao, co, Ac, cc, (Below.heap_setCell W ⟨b, i, none⟩ x mb (Ne.symm h1)).trans h1', h2'.below hbel, h3, h4, h5, h6.step hk, h7.step hk (Nat.le_refl _) (Nat.le_refl _)⟩
  c := k.step hk hbel (Below.heap_setCell W ⟨b, i, none⟩ x cb (Ne.symm h2)) (Nat.le_refl _) (Nat.le_refl _) }
theorem RIn.below (h : RIn X B mb cb fv inp fuel s cut stk rai x0 x1 x2 W) (hb : Below W.heap.size W W') : RIn X B mb cb fv inp fuel s cut stk rai x0 x1 x2 W' := by
 obtain ⟨l1, l2⟩ := own_lt h
 have hB : B ≤ W.heap.size := by have := h.hmb; omega
 have hk : KpX X W W' := KpX.below hb
 obtain ⟨Ai, ci, Ao, co, Ac, cc, h1, h2, h3, h4, h5, h6, h7⟩ := h.m
 have k := h.c
 exact { h with
  m := ⟨Ai, ci, Ao, co, Ac, cc, (hb.block mb l1).trans h1, h2.below (hb.mono hB), h3, h4, h5, h6.step hk, h7.step hk (Nat.le_refl _) (Nat.le_refl _)⟩
  c := k.step hk (hb.mono hB) (hb.block cb l2) (Nat.le_refl _) (Nat.le_refl _) }
end
end Go.Proofs.YtnobggabjpcbfaaGreat
namespace Go.Proofs.YtnobggabjpcbfaaGreat
open Go.RowKit
section
variable {X : Nat → Prop} {B mb cb : Nat} {fv : Value} {inp : List Int} {fuel : FL} {s : FSt} {cut stk rai : Bool} {x0 x1 x2 : Value} {W W' : World}
theorem RIn.cells (h : RIn X B mb cb fv inp fuel s cut stk rai x0 x1 x2 W) : W.cell? ⟨mb, 1, none⟩ = some (.int .i64 (s.asked : Int)) ∧ W.cell? ⟨mb, 2, none⟩ = some (.int .i64 (fuel.f : Int)) ∧ W.cell? ⟨mb, 3, none⟩ = some (.int .i64 ((fuel.f : Int) - (s.left : Int))) ∧
 W.cell? ⟨mb, 6, none⟩ = some (.bool cut) ∧ W.cell? ⟨mb, 7, none⟩ = some (.bool stk) ∧ W.cell? ⟨mb, 8, none⟩ = some (.bool rai) ∧ W.cell? ⟨mb, 9, none⟩ = some x0 ∧ W.cell? ⟨mb, 10, none⟩ = some x1 ∧ W.cell? ⟨mb, 11, none⟩ = some x2 ∧ (∀ i, W.frozen? ⟨mb, i, none⟩ = false) ∧ W.cell? ⟨cb, 0, none⟩ = some (.pointer (some ⟨mb, 0, none⟩)) := by
 obtain ⟨Ai, ci, Ao, co, Ac, cc, h1, -⟩ := h.m
 exact ⟨by simp [World.cell?, h1], by simp [World.cell?, h1], by simp [World.cell?, h1], by simp [World.cell?, h1], by simp [World.cell?, h1], by simp [World.cell?, h1], by simp [World.cell?, h1], by simp [World.cell?, h1], by simp [World.cell?, h1], fun i => by simp [World.frozen?, h1], h.c.ptr⟩
theorem RIn.set (h : RIn X B mb cb fv inp fuel s cut stk rai x0 x1 x2 W) (i : Nat) (x : Value) : Stp B mb cb W (W.setCell ⟨mb, i, none⟩ x) := Stp.set W (.inl rfl) h.hmb i x
theorem RIn.turn {s' : FSt} {cut' stk' rai' : Bool} {y0 y1 y2 : Value} (h : RIn X B mb cb fv inp fuel s cut stk rai x0 x1 x2 W) (hst : Stp B mb cb W W') (hcb : W'.heap[cb]? = W.heap[cb]?)
 (hm : ∀ Ai ci Ao co Ac cc, W.heap[mb]? = some (.cells #[.slice Ai inp.length ci, .int .i64 (s.asked : Int), .int .i64 (fuel.f : Int), .int .i64 ((fuel.f : Int) - (s.left : Int)), .slice Ao s.out.length co, .slice Ac s.cells.length cc, .bool cut, .bool stk, .bool rai, x0, x1, x2] 48 (0, 0)) →
  W'.heap[mb]? = some (.cells #[.slice Ai inp.length ci, .int .i64 (s'.asked : Int), .int .i64 (fuel.f : Int), .int .i64 ((fuel.f : Int) - (s'.left : Int)), .slice Ao s.out.length co, .slice Ac s.cells.length cc, .bool cut', .bool stk', .bool rai', y0, y1, y2] 48 (0, 0)))
 (ho : s'.out = s.out) (hc : s'.cells = s.cells) (hf : s'.made = s.made) (hl : s'.left ≤ s.left) (hal : s'.asked + s'.left ≤ fuel.lim) : RIn X B mb cb fv inp fuel s' cut' stk' rai' y0 y1 y2 W' := by
 obtain ⟨Ai, ci, Ao, co, Ac, cc, h1, h2, h3, h4, h5, h6, h7⟩ := h.m
 have k := h.c
 have := h.left
 have := h.askB
 have := h.outB
 have := h.celB
 have := h.fnsB
 have hkx : KpX X W W' := hst.kp.mono h.hX
 refine ⟨h.hmb, h.hcb, h.hne, h.hX, ⟨Ai, ci, Ao, co, Ac, cc, ?_, h2.below hst.bel, h3, ?_, ?_, ?_, ?_⟩, ?_, by omega, h.fuelB, h.limB, h.inpB, by omega, ?_, ?_, ?_⟩
 · rw [ho, hc]; exact hm _ _ _ _ _ _ h1
 · rw [ho]; exact h4
 · rw [hc]; exact h5
 · rw [ho]; exact h6.step hkx
 · rw [hf, hc]; exact h7.step hkx (Nat.le_refl _) (Nat.le_refl _)
 · rw [hf, hc]; exact k.step hkx hst.bel hcb (Nat.le_refl _) (Nat.le_refl _)
 · rw [ho]; omega
 · rw [hc]; omega
 · rw [hf]; omega
theorem RIn.cut_ (h : RIn X B mb cb fv inp fuel s false stk rai x0 x1 x2 W) : RIn X B mb cb fv inp fuel s true stk rai x0 x1 x2 (W.setCell ⟨mb, 6, none⟩ (.bool true)) :=
 h.turn (h.set 6 _) (heap_set_ne (Ne.symm h.hne) _ _) (fun Ai ci Ao co Ac cc h1 => by rw [heap_set_self h1 6 _]; rfl) rfl rfl rfl (Nat.le_refl _) h.askB
theorem RIn.stuck_ (h : RIn X B mb cb fv inp fuel s cut stk rai x0 x1 x2 W) : RIn X B mb cb fv inp fuel s cut true rai x0 x1 x2 (W.setCell ⟨mb, 7, none⟩ (.bool true)) :=
 h.turn (h.set 7 _) (heap_set_ne (Ne.symm h.hne) _ _) (fun Ai ci Ao co Ac cc h1 => by rw [heap_set_self h1 7 _]; rfl) rfl rfl rfl (Nat.le_refl _) h.askB
theorem RIn.step_ (h : RIn X B mb cb fv inp fuel s cut stk rai x0 x1 x2 W) (hl : s.left ≠ 0) : RIn X B mb cb fv inp ⟨fuel.f, fuel.lim - 1⟩ { s with left := s.left - 1 } cut stk rai x0 x1 x2 (W.setCell ⟨mb, 3, none⟩ (.int .i64 ((fuel.f : Int) - (s.left : Int) + 1))) := by
 have h2 : RIn X B mb cb fv inp fuel { s with left := s.left - 1 } cut stk rai x0 x1 x2 (W.setCell ⟨mb, 3, none⟩ (.int .i64 ((fuel.f : Int) - (s.left : Int) + 1))) :=
  h.turn (h.set 3 _) (heap_set_ne (Ne.symm h.hne) _ _) (fun Ai ci Ao co Ac cc h1 => by
   rw [heap_set_self h1 3 _]
   have : (fuel.f : Int) - (s.left : Int) + 1 = (fuel.f : Int) - ((s.left - 1 : Nat) : Int) := by omega
   rw [this]; rfl) rfl rfl rfl (Nat.sub_le _ _) (by have := h.askB; show s.asked + (s.left - 1) ≤ _; omega)
 have := h.askB
 have := h.outB
 have := h.celB
 have := h.fnsB
 have := h.limB
 exact { h2 with
  limB := by show fuel.lim - 1 ≤ fuel.f; omega
  askB := by show s.asked + (s.left - 1) ≤ fuel.lim - 1; omega
  outB := by show s.out.length + (s.left - 1) ≤ fuel.lim - 1; omega
  celB := by show s.cells.length + (s.left - 1) ≤ fuel.lim - 1; omega
  fnsB := by show s.made.length + 1000 * (s.left - 1) ≤ 1000 * (fuel.lim - 1); omega }
/-! ### Int, Step, Stop, Off -/
theorem vint_any (n : Int) (w : World) : Calls Tryz.prog 73 #[.int .i64 n] w fun e w' => e = .returned (.agg #[.int .i64 1, .int .i64 n, .slice none 0 0]) ∧ Below w.heap.size w w' := by
 go_enter Tryz.func73, Tryz.ntmps73
 go_wp2_with fail
 have hb : Below w.heap.size w (w.alloc (.cells #[.int .i64 1, .int .i64 n, .slice none 0 0] 46)) := (Below.refl _ _).alloc (Nat.le_refl _) _
 exact bodyPost_ret (v := .agg #[.int .i64 1, .int .i64 n, .slice none 0 0]) (by simp [results, Tryz.results73, go_sem]) rfl ⟨rfl, hb⟩
abbrev RGo (X : Nat → Prop) (B mb cb : Nat) (fv : Value) (inp : List Int) (fuel : FL) (s : FSt) (W : World) : Prop := RIn X B mb cb fv inp fuel s false false false (.int .i64 0) (.int .i64 0) (.slice none 0 0) W
def StepPostR (X : Nat → Prop) (B mb cb : Nat) (fv : Value) (inp : List Int) (fuel : FL) (s : FSt) (W : World) (e : Ending) (W' : World) : Prop :=
 Stp B mb cb W W' ∧ ((s.left = 0 ∧ e = .returned (.bool false) ∧ RIn X B mb cb fv inp fuel s true false false (.int .i64 0) (.int .i64 0) (.slice none 0 0) W') ∨ (s.left ≠ 0 ∧ e = .returned (.bool true) ∧ RGo X B mb cb fv inp ⟨fuel.f, fuel.lim - 1⟩ { s with left := s.left - 1 } W'))
theorem rstep_any (h : RGo X B mb cb fv inp fuel s W) : Calls Tryz.prog 47 #[.pointer (some ⟨mb, 0, none⟩)] W (StepPostR X B mb cb fv inp fuel s W) := by
 obtain ⟨m1, m2, m3, m6, m7, m8, m9, m10, m11, mf, mc⟩ := h.cells
 have hfb := h.fuelB
 have hl := h.left
 have hBW : B ≤ W.heap.size := by have := h.hmb; have := (own_lt h).1; omega
 by_cases h0 : s.left = 0
 · have HP := Lib.hid (fun (k : Nat) => (show StepPostR X B mb cb fv inp fuel s W (.returned (.bool false)) ((W.drewN k).setCell ⟨mb, 6, none⟩ (.bool true)) from ⟨(Stp.below (below_drewN (Below.refl _ _) k) hBW).trans ((h.below (below_drewN (Below.refl _ _) k)).set 6 _), .inl ⟨h0, rfl, (h.below (below_drewN (Below.refl _ _) k)).cut_⟩⟩))
   have hge : (fuel.f : Int) ≤ (fuel.f : Int) - (s.left : Int) := by omega
   clear h h0
   go_enter Tryz.func47, Tryz.ntmps47
   go_wp2_with fail
   go_quiet (fail)
   go_wp2_with fail
   go_ret
   exact HP.out _
 · have HP := Lib.hid (fun (k : Nat) => (show StepPostR X B mb cb fv inp fuel s W (.returned (.bool true)) ((W.drewN k).setCell ⟨mb, 3, none⟩ (.int .i64 ((fuel.f : Int) - (s.left : Int) + 1))) from ⟨(Stp.below (below_drewN (Below.refl _ _) k) hBW).trans ((h.below (below_drewN (Below.refl _ _) k)).set 3 _), .inr ⟨h0, rfl, (h.below (below_drewN (Below.refl _ _) k)).step_ h0⟩⟩))
   have hge : ¬ (fuel.f : Int) ≤ (fuel.f : Int) - (s.left : Int) := by omega
   have hw : IntKind.i64.wrap ((fuel.f : Int) - (s.left : Int) + 1) = (fuel.f : Int) - (s.left : Int) + 1 := by rw [IntKind.wrap_i64]; omega
   clear h h0
   go_enter Tryz.func47, Tryz.ntmps47
   go_wp2_with fail
   go_quiet (fail)
   go_wp2_with fail
   go_ret
   exact HP.out _
end
end Go.Proofs.YtnobggabjpcbfaaGreat
namespace Go.Proofs.YtnobggabjpcbfaaGreat
open Go.RowKit
section
variable {X : Nat → Prop} {B mb cb : Nat} {fv : Value} {inp : List Int} {fuel : FL} {s : FSt} {cut stk rai : Bool} {x0 x1 x2 : Value} {W W' : World}
theorem RIn.hBW (h : RIn X B mb cb fv inp fuel s cut stk rai x0 x1 x2 W) : B ≤ W.heap.size := by have := h.hmb; have := (own_lt h).1; omega
abbrev zeroV : Value := .agg #[.int .i64 0, .int .i64 0, .slice none 0 0]
def StopPost (X : Nat → Prop) (B mb cb : Nat) (fv : Value) (inp : List Int) (fuel : FL) (s : FSt) (cut rai : Bool) (x0 x1 x2 : Value) (W : World) (e : Ending) (W' : World) : Prop :=
 Stp B mb cb W W' ∧ e = .returned zeroV ∧ RIn X B mb cb fv inp fuel s cut true rai x0 x1 x2 W'
theorem rstop_any (h : RIn X B mb cb fv inp fuel s cut stk rai x0 x1 x2 W) : Calls Tryz.prog 49 #[.pointer (some ⟨mb, 0, none⟩)] W (StopPost X B mb cb fv inp fuel s cut rai x0 x1 x2 W) := by
 obtain ⟨m1, m2, m3, m6, m7, m8, m9, m10, m11, mf, mc⟩ := h.cells
 have hlt := (own_lt h).1
 have hb : Below W.heap.size W (W.alloc (.cells #[.int .i64 0, .int .i64 0, .slice none 0 0] 46)) := (Below.refl _ _).alloc (Nat.le_refl _) _
 have HP := Lib.hid (show StopPost X B mb cb fv inp fuel s cut rai x0 x1 x2 W (.returned zeroV) ((W.setCell ⟨mb, 7, none⟩ (.bool true)).alloc (.cells #[.int .i64 0, .int .i64 0, .slice none 0 0] 46)) from by
  have h2 := h.stuck_
  have hb2 : Below (W.setCell ⟨mb, 7, none⟩ (.bool true)).heap.size (W.setCell ⟨mb, 7, none⟩ (.bool true)) ((W.setCell ⟨mb, 7, none⟩ (.bool true)).alloc (.cells #[.int .i64 0, .int .i64 0, .slice none 0 0] 46)) := (Below.refl _ _).alloc (Nat.le_refl _) _
  exact ⟨(h.set 7 _).trans (Stp.below hb2 h2.hBW), rfl, h2.below hb2⟩)
 clear h hb
 go_enter Tryz.func49, Tryz.ntmps49
 go_wp2_with fail
 exact bodyPost_ret (v := zeroV) (by simp [results, Tryz.results49, go_sem, zeroV]) rfl HP.out
theorem roff_any (h : RIn X B mb cb fv inp fuel s cut stk rai x0 x1 x2 W) : Calls Tryz.prog 51 #[.pointer (some ⟨mb, 0, none⟩)] W fun e w' => e = .returned (.bool (cut || stk || rai)) ∧ W = w' := by
 obtain ⟨m1, m2, m3, m6, m7, m8, m9, m10, m11, mf, mc⟩ := h.cells
 clear h
 cases cut <;> cases stk
 all_goals
  go_enter Tryz.func51, Tryz.ntmps51
  go_wp2_with fail
  go_ret
  exact ⟨rfl, rfl⟩
theorem rkey_any {X : Nat → Prop} {nf nc : Nat} {w0 : World} {v : PV} {a b c : Value} (hv : VIn X nf nc w0 v a b c) (w : World) : Calls Tryz.prog 41 #[.agg #[a, b, c]] w fun e w' => (∃ k, keyOf v = some k ∧ e = .returned (.tuple #[.int .i64 k, .bool true]) ∧ Below w.heap.size w w') ∨ (keyOf v = none ∧ e = .returned (.tuple #[.int .i64 0, .bool false]) ∧ Below w.heap.size w w') := by
 cases hv with
 | int n =>
  go_enter Tryz.func41, Tryz.ntmps41
  go_wp2_with fail
  go_ret2
  exact .inl ⟨n, rfl, rfl, (Below.refl _ _).alloc (Nat.le_refl _) _⟩
 | fn i hi =>
  go_enter Tryz.func41, Tryz.ntmps41
  go_wp2_with fail
  go_ret2
  exact .inr ⟨rfl, rfl, (Below.refl _ _).alloc (Nat.le_refl _) _⟩
 | ref i hi =>
  go_enter Tryz.func41, Tryz.ntmps41
  go_wp2_with fail
  go_ret2
  exact .inr ⟨rfl, rfl, (Below.refl _ _).alloc (Nat.le_refl _) _⟩
 | blk t ks A d b o G0 G1 G2 hl hb hA c0 c1 c2 hsub =>
  clear hl hb hA c0 c1 c2 hsub
  generalize hk : ks.length = kl
  go_enter Tryz.func41, Tryz.ntmps41
  go_wp2_with fail
  go_ret2
  exact .inl ⟨t, rfl, rfl, (Below.refl _ _).alloc (Nat.le_refl _) _⟩
end
end Go.Proofs.YtnobggabjpcbfaaGreat
