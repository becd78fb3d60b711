/-
 5 texts of this seat in one: FV10 FV11 FV12 FV13 FV14.
-/
import Derived.Test.YtnobggabjpcbfaaGreatQI23
import Derived.Laws.OwnMore
set_option maxRecDepth 100000
set_option maxHeartbeats 16000000
set_option linter.unusedVariables false
set_option linter.unusedSimpArgs false
namespace Go.Proofs.YtnobggabjpcbfaaGreat
open Go.RowKit
section
variable {X Y : Nat → Prop} {B mb cb : Nat} {fv : Value} {inp : List Int} {fuel : FL} {s s1 : FSt} {cut stk rai : Bool} {x0 x1 x2 : Value} {W W' W1 W2 : World} {o : FOut}
theorem rcaught_no (h : RIn X B mb cb fv inp fuel s cut stk rai x0 x1 x2 W) (hn : (!rai || cut || stk) = true) :
 Calls Tryz.prog 74 #[.pointer (some ⟨mb, 0, none⟩)] W fun e w' => e = .returned (.tuple #[zeroV, .bool false]) ∧ Below W.heap.size W w' := by
 obtain ⟨m1, m2, m3, m6, m7, m8, m9, m10, m11, mf, mc⟩ := h.cells
 have hlt := (own_lt h).1
 have hb : Below W.heap.size W (W.alloc (.cells #[.int .i64 0, .int .i64 0, .slice none 0 0] 46)) := (Below.refl _ _).alloc (Nat.le_refl _) _
 have HB := Lib.hid hb
 clear h hb m1 m2 m3 m9 m10 m11 mc
 cases rai <;> cases cut <;> cases stk <;> first | (exfalso; revert hn; decide) | skip
 all_goals
  clear hn
  go_enter Tryz.func74, Tryz.ntmps74
  go_wp2_with fail
  exact bodyPost_ret (v := .tuple #[zeroV, .bool false]) (by simp [results, Tryz.results74, go_sem, zeroV]) rfl ⟨rfl, HB.out⟩
theorem rcaught_yes {v : PV} {y0 y1 y2 : Value} (h : RIn X B mb cb fv inp fuel s false false true y0 y1 y2 W) (hv : VIn X s.made.length s.cells.length W v y0 y1 y2) :
 Calls Tryz.prog 74 #[.pointer (some ⟨mb, 0, none⟩)] W fun e w' => ∃ k n A l d, e = .returned (.tuple #[.agg #[.int .i64 k, .int .i64 n, .slice A l d], .bool true]) ∧ Stp B mb cb W w' ∧ RGo X B mb cb fv inp fuel s w' ∧ VIn X s.made.length s.cells.length w' v (.int .i64 k) (.int .i64 n) (.slice A l d) := by
 obtain ⟨k0, n0, A0, l0, d0, rfl, rfl, rfl⟩ := hv.shape
 obtain ⟨m1, m2, m3, m6, m7, m8, m9, m10, m11, mf, mc⟩ := h.cells
 have hlt := (own_lt h).1
 have h2 := h.calm1
 have hs2 : Stp B mb cb W _ := Stp.set4 W (.inl rfl) h.hmb 8 9 10 11 (.bool false) (.int .i64 0) (.int .i64 0) (.slice none 0 0)
 have HP := Lib.hid (fun (V : World) (hb : Below ((((W.setCell ⟨mb, 8, none⟩ (.bool false)).setCell ⟨mb, 9, none⟩ (.int .i64 0)).setCell ⟨mb, 10, none⟩ (.int .i64 0)).setCell ⟨mb, 11, none⟩ (.slice none 0 0)).heap.size ((((W.setCell ⟨mb, 8, none⟩ (.bool false)).setCell ⟨mb, 9, none⟩ (.int .i64 0)).setCell ⟨mb, 10, none⟩ (.int .i64 0)).setCell ⟨mb, 11, none⟩ (.slice none 0 0)) V) =>
  (show Stp B mb cb W V ∧ RGo X B mb cb fv inp fuel s V ∧ VIn X s.made.length s.cells.length V v (.int .i64 k0) (.int .i64 n0) (.slice A0 l0 d0) from
   ⟨hs2.trans (Stp.below hb h2.hBW), h2.below hb, (hv.step (hs2.kp.mono h.hX) (Nat.le_refl _) (Nat.le_refl _)).step (KpX.below hb) (Nat.le_refl _) (Nat.le_refl _)⟩))
 clear h hv h2 hs2
 go_enter Tryz.func74, Tryz.ntmps74
 go_wp2_with fail
 refine bodyPost_ret (v := .tuple #[.agg #[.int .i64 k0, .int .i64 n0, .slice A0 l0 d0], .bool true]) (by simp [results, Tryz.results74, go_sem]) rfl ⟨k0, n0, A0, l0, d0, rfl, HP.out _ ?_⟩
 exact ((Below.refl _ _).alloc (Nat.le_refl _) _).alloc (((Below.refl _ _).alloc (Nat.le_refl _) _).size) _
end
end Go.Proofs.YtnobggabjpcbfaaGreat
namespace Go.Proofs.YtnobggabjpcbfaaGreat
open Go.RowKit
section
variable {α : Type} {P Q : α → List Value → Prop} {k : Nat}
inductive RVals (P : α → List Value → Prop) (k : Nat) : List α → List Value → Prop
 | nil : RVals P k [] []
 | cons (a : α) (l : List α) (c xs : List Value) (h : P a c) (hk : c.length = k) (ht : RVals P k l xs) : RVals P k (a :: l) (c ++ xs)
theorem RVals.len {l : List α} {xs : List Value} (h : RVals P k l xs) : xs.length = l.length * k := by
 induction h with
 | nil => simp
 | cons a l c xs h hk ht ih => simp [ih, hk, Nat.add_mul]; omega
theorem RVals.mono {l : List α} {xs : List Value} (h : RVals P k l xs) (hm : ∀ a c, P a c → Q a c) : RVals Q k l xs := by
 induction h with
 | nil => exact .nil
 | cons a l c xs h hk ht ih => exact .cons a l c xs (hm _ _ h) hk ih
theorem RVals.one {l : List α} {xs : List Value} (h : RVals P k l xs) (hm : ∀ a c, P a c → ∀ u ∈ c, u.oneCell' = true) : ∀ u ∈ xs, u.oneCell' = true := by
 induction h with
 | nil => simp
 | cons a l c xs h hk ht ih =>
  intro u hu
  rcases List.mem_append.1 hu with h' | h'
  · exact hm _ _ h u h'
  · exact ih u h'
theorem RVals.app {l l2 : List α} {xs ys : List Value} (h : RVals P k l xs) (h2 : RVals P k l2 ys) : RVals P k (l ++ l2) (xs ++ ys) := by
 induction h with
 | nil => exact h2
 | cons a l c xs h hk ht ih => rw [List.append_assoc]; exact .cons a _ c _ h hk ih
theorem RVals.single {a : α} {c : List Value} (h : P a c) (hk : c.length = k) : RVals P k [a] c := by
 have := RVals.cons a [] c [] h hk .nil
 simpa using this
theorem RVals.at_ {l : List α} {xs : List Value} (h : RVals P k l xs) : ∀ i (hi : i < l.length), ∃ c, P l[i] c ∧ c.length = k ∧ ∀ j, j < k → xs[i * k + j]? = c[j]? := by
 induction h with
 | nil => intro i hi; simp at hi
 | cons a l c xs h hk ht ih =>
  intro i hi
  cases i with
  | zero =>
   refine ⟨c, h, hk, fun j hj => ?_⟩
   rw [Nat.zero_mul, Nat.zero_add, List.getElem?_append_left (by omega)]
  | succ i =>
   obtain ⟨c', h1, h2, h3⟩ := ih i (by simpa using hi)
   refine ⟨c', by simpa using h1, h2, fun j hj => ?_⟩
   have e : (i + 1) * k + j = i * k + j + k := by rw [Nat.add_mul]; omega
   rw [List.getElem?_append_right (by omega), hk, e, Nat.add_sub_cancel]
   exact h3 j hj
theorem RVals.of {w : World} {b : Nat} : ∀ (l : List α) (o : Nat), (∀ i (hi : i < l.length), ∃ c, P l[i] c ∧ c.length = k ∧ ∀ j u, c[j]? = some u → w.cell? ⟨b, o + (i * k + j), none⟩ = some u) → ∃ xs, RVals P k l xs ∧ ∀ j u, xs[j]? = some u → w.cell? ⟨b, o + j, none⟩ = some u := by
 intro l
 induction l with
 | nil => intro o h; exact ⟨[], .nil, by simp⟩
 | cons a l ih =>
  intro o h
  obtain ⟨c, h1, h2, h3⟩ := h 0 (by simp)
  obtain ⟨xs, g1, g2⟩ := ih (o + k) (fun i hi => by
   obtain ⟨c', k1, k2, k3⟩ := h (i + 1) (by simpa using hi)
   refine ⟨c', by simpa using k1, k2, fun j u hj => ?_⟩
   have e : o + ((i + 1) * k + j) = o + k + (i * k + j) := by rw [Nat.add_mul]; omega
   rw [← e]; exact k3 j u hj)
  refine ⟨c ++ xs, .cons a l c xs h1 h2 g1, fun j u hj => ?_⟩
  by_cases hjk : j < k
  · rw [List.getElem?_append_left (by omega)] at hj
    have := h3 j u hj
    simpa using this
  · rw [List.getElem?_append_right (by omega), h2] at hj
    have := g2 (j - k) u hj
    have e : o + k + (j - k) = o + j := by omega
    rwa [e] at this
end
section
variable {B mb cb : Nat} {X : Nat → Prop} {nf nc : Nat} {w w' : World}
def PV3 (X : Nat → Prop) (nf nc : Nat) (w : World) (v : PV) (c : List Value) : Prop := ∃ a b d, c = [a, b, d] ∧ VIn X nf nc w v a b d
def PI1 (n : Int) (c : List Value) : Prop := c = [.int .i64 n]
theorem VIn.one {v : PV} {a b c : Value} (h : VIn X nf nc w v a b c) : a.oneCell' = true ∧ b.oneCell' = true ∧ c.oneCell' = true := by
 obtain ⟨_, _, _, _, _, rfl, rfl, rfl⟩ := h.shape
 exact ⟨rfl, rfl, rfl⟩
theorem PV3.one {v : PV} {c : List Value} (h : PV3 X nf nc w v c) : ∀ u ∈ c, u.oneCell' = true := by
 obtain ⟨a, b, d, rfl, hv⟩ := h
 obtain ⟨h1, h2, h3⟩ := hv.one
 simp [h1, h2, h3]
theorem PI1.one {n : Int} {c : List Value} (h : PI1 n c) : ∀ u ∈ c, u.oneCell' = true := by unfold PI1 at h; subst h; simp [Value.oneCell']
theorem VRow.list {A : Option Addr} {ks : List PV} (h : VRow X nf nc w A ks) : ∃ xs, RVals (PV3 X nf nc w) 3 ks xs ∧ RowI w A xs := by
 rcases h with rfl | ⟨b, o, G0, G1, G2, rfl, hx, c0, c1, c2, hs⟩
 · refine ⟨[], .nil, ?_⟩
   rcases A with _ | ad
   · exact .inl ⟨rfl, rfl⟩
   · exact .inr ⟨_, rfl, by simp⟩
 · obtain ⟨xs, h1, h2⟩ := RVals.of (P := PV3 X nf nc w) (k := 3) (w := w) (b := b) ks o (fun i hi => ⟨[G0 i, G1 i, G2 i], ⟨_, _, _, rfl, hs i hi⟩, rfl, fun j u hj => by
    match j, hj with
    | 0, hj => simp at hj; subst hj; exact c0 i hi
    | 1, hj => simp at hj; subst hj; exact c1 i hi
    | 2, hj => simp at hj; subst hj; exact c2 i hi⟩)
   exact ⟨xs, h1, .inr ⟨_, rfl, fun j u hj => by rw [add_plain]; exact h2 j u hj⟩⟩
theorem ORow.list {A : Option Addr} {ks : List Int} (h : ORow B X w A ks) : ∃ xs, RVals PI1 1 ks xs ∧ RowI w A xs := by
 rcases h.2 with rfl | ⟨b, o, rfl, hx, c0⟩
 · refine ⟨[], .nil, ?_⟩
   rcases A with _ | ad
   · exact .inl ⟨rfl, rfl⟩
   · exact .inr ⟨_, rfl, by simp⟩
 · obtain ⟨xs, h1, h2⟩ := RVals.of (P := PI1) (k := 1) (w := w) (b := b) ks o (fun i hi => ⟨[.int .i64 ks[i]], rfl, rfl, fun j u hj => by
    match j, hj with
    | 0, hj =>
     simp at hj; subst hj
     have := c0 i hi
     rw [nth_eq ks hi] at this
     simpa using this⟩)
   exact ⟨xs, h1, .inr ⟨_, rfl, fun j u hj => by rw [add_plain]; exact h2 j u hj⟩⟩
theorem own_cell {base : Nat} {e : TypeId} {size n : Nat} {v : Value} {xs : List Value} (h : w.ownsRow base e size v n xs) (hn : 0 < n) : ∃ g cap, v = .slice (some ⟨g, 0, none⟩) n cap ∧ base ≤ g ∧ n ≤ cap ∧ (∀ i, w.frozen? ⟨g, i, none⟩ = false) ∧ g < w.heap.size ∧ ∀ j u, xs[j]? = some u → w.cell? ⟨g, 0 + j, none⟩ = some u := by
 rcases h.2 with ⟨_, h0⟩ | ⟨g, cap, cur, hv, hg, hc, hnc, _, hsz, hxs⟩
 · omega
 · refine ⟨g, cap, hv, hg, hnc, fun i => by simp [World.frozen?, hc], (Array.getElem?_eq_some_iff.1 hc).1, fun j u hj => ?_⟩
   rw [← hxs, List.getElem?_take] at hj
   split at hj
   · simp [World.cell?, hc]
     simpa using hj
   · cases hj
theorem VRow.mk_ {ks : List PV} {xs : List Value} {b o : Nat} (h : RVals (PV3 X nf nc w) 3 ks xs) (hx : ¬ X b) (hc : ∀ j u, xs[j]? = some u → w.cell? ⟨b, o + j, none⟩ = some u) : VRow X nf nc w (some ⟨b, o, none⟩) ks := by
 refine .inr ⟨b, o, fun i => xs[i * 3]?.getD default, fun i => xs[i * 3 + 1]?.getD default, fun i => xs[i * 3 + 2]?.getD default, rfl, hx, ?_, ?_, ?_, ?_⟩
 all_goals
  intro i hi
  obtain ⟨c, ⟨x0, x1, x2, rfl, hv⟩, -, hj⟩ := h.at_ i hi
  have e0 := hj 0 (by omega)
  have e1 := hj 1 (by omega)
  have e2 := hj 2 (by omega)
  simp only [Nat.add_zero, List.getElem?_cons_zero, List.getElem?_cons_succ] at e0 e1 e2
 · exact (hc _ _ e0).trans (by simp [e0])
 · exact (hc _ _ e1).trans (by simp [e1])
 · exact (hc _ _ e2).trans (by simp [e2])
 · simp only [e0, e1, e2, Option.getD_some]; exact hv
theorem ORow.mk_ {ks : List Int} {xs : List Value} {b o : Nat} (h : RVals PI1 1 ks xs) (hB : B ≤ b) (hx : ¬ X b) (hc : ∀ j u, xs[j]? = some u → w.cell? ⟨b, o + j, none⟩ = some u) : ORow B X w (some ⟨b, o, none⟩) ks := by
 refine ⟨fun a ha => by cases ha; exact hB, .inr ⟨b, o, rfl, hx, fun i hi => ?_⟩⟩
 obtain ⟨c, hp, -, hj⟩ := h.at_ i hi
 have e0 := hj 0 (by omega)
 unfold PI1 at hp
 subst hp
 simp only [Nat.add_zero, Nat.mul_one, List.getElem?_cons_zero] at e0
 rw [nth_eq ks hi]
 exact hc _ _ e0
theorem PV3.step {nf' nc' : Nat} {v : PV} {c : List Value} (h : PV3 X nf nc w v c) (hk : KpX X w w') (hf : nf ≤ nf') (hc : nc ≤ nc') : PV3 X nf' nc' w' v c := by
 obtain ⟨a, b, d, e, hv⟩ := h
 exact ⟨a, b, d, e, hv.step hk hf hc⟩
def PC2 (X : Nat → Prop) (nf nc : Nat) (w : World) (m : Int × List PV) (c : List Value) : Prop := ∃ g, c = [.int .i64 m.1, g] ∧ HIn X nf nc w m.2 g
theorem PC2.one {m : Int × List PV} {c : List Value} (h : PC2 X nf nc w m c) : ∀ u ∈ c, u.oneCell' = true := by
 obtain ⟨g, rfl, A, d, rfl, -⟩ := h
 simp [Value.oneCell']
theorem PC2.step {nf' nc' : Nat} {m : Int × List PV} {c : List Value} (h : PC2 X nf nc w m c) (hk : KpX X w w') (hf : nf ≤ nf') (hc : nc ≤ nc') : PC2 X nf' nc' w' m c := by
 obtain ⟨g, e, hv⟩ := h
 exact ⟨g, e, hv.step hk hf hc⟩
theorem CRow.list {A : Option Addr} {ks : List (Int × List PV)} (h : CRow X nf nc w A ks) : ∃ xs, RVals (PC2 X nf nc w) 2 ks xs ∧ RowI w A xs := by
 rcases h with rfl | ⟨b, o, G, rfl, hx, c0, c1, hs⟩
 · refine ⟨[], .nil, ?_⟩
   rcases A with _ | ad
   · exact .inl ⟨rfl, rfl⟩
   · exact .inr ⟨_, rfl, by simp⟩
 · obtain ⟨xs, h1, h2⟩ := RVals.of (P := PC2 X nf nc w) (k := 2) (w := w) (b := b) ks o (fun i hi => ⟨[.int .i64 ks[i].1, G i], ⟨_, rfl, hs i hi⟩, rfl, fun j u hj => by
    match j, hj with
    | 0, hj => simp at hj; subst hj; exact c0 i hi
    | 1, hj => simp at hj; subst hj; exact c1 i hi⟩)
   exact ⟨xs, h1, .inr ⟨_, rfl, fun j u hj => by rw [add_plain]; exact h2 j u hj⟩⟩
theorem CRow.mk_ {ks : List (Int × List PV)} {xs : List Value} {b o : Nat} (h : RVals (PC2 X nf nc w) 2 ks xs) (hx : ¬ X b) (hc : ∀ j u, xs[j]? = some u → w.cell? ⟨b, o + j, none⟩ = some u) : CRow X nf nc w (some ⟨b, o, none⟩) ks := by
 refine .inr ⟨b, o, fun i => xs[i * 2 + 1]?.getD default, rfl, hx, ?_, ?_, ?_⟩
 all_goals
  intro i hi
  obtain ⟨c, ⟨x1, rfl, hv⟩, -, hj⟩ := h.at_ i hi
  have e0 := hj 0 (by omega)
  have e1 := hj 1 (by omega)
  simp only [Nat.add_zero, List.getElem?_cons_zero, List.getElem?_cons_succ] at e0 e1
 · exact hc _ _ e0
 · exact (hc _ _ e1).trans (by simp [e1])
 · simp only [e1, Option.getD_some]; exact hv
end
end Go.Proofs.YtnobggabjpcbfaaGreat
namespace Go.Proofs.YtnobggabjpcbfaaGreat
open Go.RowKit
section
variable {X Y : Nat → Prop} {B mb cb : Nat} {fv : Value} {inp : List Int} {fuel : FL} {s s1 : FSt} {cut stk rai : Bool} {x0 x1 x2 : Value} {W W' W1 W2 : World} {o : FOut}
theorem RIn.fnsL (h : RIn X B mb cb fv inp fuel s cut stk rai x0 x1 x2 W) : ∃ Af cf xs, W.heap[cb]? = some (.cells #[.pointer (some ⟨mb, 0, none⟩), fv, .slice Af s.made.length cf] 79 (0, 0)) ∧ RVals (PC2 X s.made.length s.cells.length W) 2 s.made xs ∧ RowI W Af xs := by
 obtain ⟨Af, cf, h1, h2, h3⟩ := h.c
 obtain ⟨xs, g1, g2⟩ := h3.list
 exact ⟨Af, cf, xs, h1, g1, g2⟩
theorem RIn.fnsR (h : RIn X B mb cb fv inp fuel s cut stk rai x0 x1 x2 W) {V1 : World} (hb : Below W.heap.size W V1) {l : List (Int × List PV)} {A : Option Addr} {cap : Nat} (hl : s.made.length ≤ l.length) (hcap : l.length ≤ cap) (hlim : l.length + 1000 * s.left ≤ 1000 * fuel.lim)
 (hrow : CRow X l.length s.cells.length V1 A l) :
 RIn X B mb cb fv inp fuel { s with made := l } cut stk rai x0 x1 x2 (V1.setCell ⟨cb, 2, none⟩ (.slice A l.length cap)) ∧ Stp B mb cb W (V1.setCell ⟨cb, 2, none⟩ (.slice A l.length cap)) := by
 obtain ⟨l1, l2⟩ := own_lt h
 have hst2 : Stp B mb cb V1 (V1.setCell ⟨cb, 2, none⟩ (.slice A l.length cap)) := Stp.set V1 (.inr rfl) h.hcb 2 _
 have hst : Stp B mb cb W (V1.setCell ⟨cb, 2, none⟩ (.slice A l.length cap)) := (Stp.below hb h.hBW).trans hst2
 have hkx : KpX X W (V1.setCell ⟨cb, 2, none⟩ (.slice A l.length cap)) := hst.kp.mono h.hX
 refine ⟨?_, hst⟩
 obtain ⟨Ai, ci, Ao, co, Ac, cc, m1, m2, m3, m4, m5, m6, m7⟩ := h.m
 obtain ⟨Af, cf, k1, k2, k3⟩ := h.c
 refine { h with
  m := ⟨Ai, ci, Ao, co, Ac, cc, ?_, m2.below hst.bel, m3, m4, m5, m6.step hkx, m7.step hkx hl (Nat.le_refl _)⟩
  c := ⟨A, cap, ?_, hcap, hrow.step (hst2.kp.mono h.hX) (Nat.le_refl _) (Nat.le_refl _)⟩
  fnsB := hlim }
 · rw [heap_set_ne h.hne]
   exact (hb.block mb l1).trans m1
 · have e : V1.heap[cb]? = _ := (hb.block cb l2).trans k1
   rw [heap_set_self e 2 _]
   rfl
theorem RIn.celL (h : RIn X B mb cb fv inp fuel s cut stk rai x0 x1 x2 W) : ∃ Ac cc xs, W.cell? ⟨mb, 5, none⟩ = some (.slice Ac s.cells.length cc) ∧ RVals (PV3 X s.made.length s.cells.length W) 3 s.cells xs ∧ RowI W Ac xs ∧ VRow X s.made.length s.cells.length W Ac s.cells := by
 obtain ⟨Ai, ci, Ao, co, Ac, cc, h1, h2, h3, h4, h5, h6, h7⟩ := h.m
 obtain ⟨xs, g1, g2⟩ := h7.list
 exact ⟨Ac, cc, xs, by simp [World.cell?, h1], g1, g2, h7⟩
theorem RIn.celR (h : RIn X B mb cb fv inp fuel s cut stk rai x0 x1 x2 W) {V1 : World} (hb : Below W.heap.size W V1) {l : List PV} {A : Option Addr} {cap : Nat} (hl : s.cells.length ≤ l.length) (hcap : l.length ≤ cap) (hlim : l.length + s.left ≤ fuel.lim)
 (hrow : VRow X s.made.length l.length V1 A l) :
 RIn X B mb cb fv inp fuel { s with cells := l } cut stk rai x0 x1 x2 (V1.setCell ⟨mb, 5, none⟩ (.slice A l.length cap)) ∧ Stp B mb cb W (V1.setCell ⟨mb, 5, none⟩ (.slice A l.length cap)) := by
 obtain ⟨l1, l2⟩ := own_lt h
 have hst2 : Stp B mb cb V1 (V1.setCell ⟨mb, 5, none⟩ (.slice A l.length cap)) := Stp.set V1 (.inl rfl) h.hmb 5 _
 have hst : Stp B mb cb W (V1.setCell ⟨mb, 5, none⟩ (.slice A l.length cap)) := (Stp.below hb h.hBW).trans hst2
 have hkx : KpX X W (V1.setCell ⟨mb, 5, none⟩ (.slice A l.length cap)) := hst.kp.mono h.hX
 refine ⟨?_, hst⟩
 obtain ⟨Ai, ci, Ao, co, Ac, cc, m1, m2, m3, m4, m5, m6, m7⟩ := h.m
 have k := h.c
 refine { h with
  m := ⟨Ai, ci, Ao, co, A, cap, ?_, m2.below hst.bel, m3, m4, hcap, m6.step hkx, hrow.step (hst2.kp.mono h.hX) (Nat.le_refl _) (Nat.le_refl _)⟩
  c := k.step hkx hst.bel ((heap_set_ne (Ne.symm h.hne) _ _).trans (hb.block cb l2)) (Nat.le_refl _) hl
  celB := hlim }
 · have e : V1.heap[mb]? = _ := (hb.block mb l1).trans m1
   rw [heap_set_self e 5 _]
   rfl
theorem RIn.cel_ (h : RIn X B mb cb fv inp fuel s cut stk rai x0 x1 x2 W) (hX : ∀ k, X k → k < W.heap.size) (hlim : s.cells.length + 1 + s.left ≤ fuel.lim) {a : PV} {xs c : List Value} {v : Value} {V1 : World} (hb : Below W.heap.size W V1)
 (hxs : RVals (PV3 X s.made.length s.cells.length W) 3 s.cells xs) (hc : PV3 X s.made.length s.cells.length W a c) (hown : V1.ownsRow W.heap.size 46 3 v (s.cells.length + 1) (xs ++ c)) :
 RIn X B mb cb fv inp fuel { s with cells := s.cells ++ [a] } cut stk rai x0 x1 x2 (V1.setCell ⟨mb, 5, none⟩ v) ∧ Stp B mb cb W (V1.setCell ⟨mb, 5, none⟩ v) := by
 obtain ⟨g, cap, rfl, hg, hcap, -, hgl, hcell⟩ := own_cell hown (by omega)
 have hlen : (s.cells ++ [a]).length = s.cells.length + 1 := by simp
 have hh : RVals (PV3 X s.made.length s.cells.length W) 3 (s.cells ++ [a]) (xs ++ c) := hxs.app (.single hc (by obtain ⟨_, _, _, rfl, _⟩ := hc; rfl))
 have := h.celR hb (l := s.cells ++ [a]) (A := some ⟨g, 0, none⟩) (cap := cap) (by simp) (by rw [hlen]; exact hcap) (by rw [hlen]; exact hlim)
  (VRow.mk_ (xs := xs ++ c) (hh.mono fun a c h => h.step (KpX.below hb) (Nat.le_refl _) (by simp)) (fun hx => by have := hX g hx; omega) hcell)
 rw [hlen] at this
 exact this
theorem RIn.outL (h : RIn X B mb cb fv inp fuel s cut stk rai x0 x1 x2 W) : ∃ Ao co xs, W.cell? ⟨mb, 4, none⟩ = some (.slice Ao s.out.length co) ∧ RVals PI1 1 s.out xs ∧ RowI W Ao xs := by
 obtain ⟨Ai, ci, Ao, co, Ac, cc, h1, h2, h3, h4, h5, h6, h7⟩ := h.m
 obtain ⟨xs, g1, g2⟩ := h6.list
 exact ⟨Ao, co, xs, by simp [World.cell?, h1], g1, g2⟩
theorem RIn.out_ (h : RIn X B mb cb fv inp fuel s cut stk rai x0 x1 x2 W) (hX : ∀ k, X k → k < W.heap.size) (hlim : s.out.length + 1 + s.left ≤ fuel.lim) {n : Int} {xs c : List Value} {v : Value} {V1 : World} (hb : Below W.heap.size W V1)
 (hxs : RVals PI1 1 s.out xs) (hc : PI1 n c) (hown : V1.ownsRow W.heap.size 3 1 v (s.out.length + 1) (xs ++ c)) :
 RIn X B mb cb fv inp fuel { s with out := s.out ++ [n] } cut stk rai x0 x1 x2 (V1.setCell ⟨mb, 4, none⟩ v) ∧ Stp B mb cb W (V1.setCell ⟨mb, 4, none⟩ v) := by
 obtain ⟨l1, l2⟩ := own_lt h
 obtain ⟨g, cap, rfl, hg, hcap, -, hgl, hcell⟩ := own_cell hown (by omega)
 have hst2 : Stp B mb cb V1 (V1.setCell ⟨mb, 4, none⟩ (.slice (some ⟨g, 0, none⟩) (s.out.length + 1) cap)) := Stp.set V1 (.inl rfl) h.hmb 4 _
 have hst : Stp B mb cb W (V1.setCell ⟨mb, 4, none⟩ (.slice (some ⟨g, 0, none⟩) (s.out.length + 1) cap)) := (Stp.below hb h.hBW).trans hst2
 have hkx : KpX X W (V1.setCell ⟨mb, 4, none⟩ (.slice (some ⟨g, 0, none⟩) (s.out.length + 1) cap)) := hst.kp.mono h.hX
 refine ⟨?_, hst⟩
 obtain ⟨Ai, ci, Ao, co, Ac, cc, m1, m2, m3, m4, m5, m6, m7⟩ := h.m
 have k := h.c
 have hlen : (s.out ++ [n]).length = s.out.length + 1 := by simp
 have hBg : B ≤ g := Nat.le_trans h.hBW hg
 refine { h with
  m := ⟨Ai, ci, some ⟨g, 0, none⟩, cap, Ac, cc, ?_, m2.below hst.bel, m3, by rw [hlen]; exact hcap, m5, ?_, m7.step hkx (Nat.le_refl _) (Nat.le_refl _)⟩
  c := k.step hkx hst.bel ((heap_set_ne (Ne.symm h.hne) _ _).trans (hb.block cb l2)) (Nat.le_refl _) (Nat.le_refl _)
  outB := by rw [hlen]; exact hlim }
 · have e : V1.heap[mb]? = _ := (hb.block mb l1).trans m1
   rw [heap_set_self e 4 _, hlen]
   rfl
 · refine ORow.mk_ (xs := xs ++ c) (hxs.app (.single hc (by unfold PI1 at hc; subst hc; rfl))) hBg (fun hx => by have := hX g hx; omega) ?_
   intro j u hj
   rw [World.cell?_setCell_far _ _ (⟨g, 0 + j, none⟩ : Addr) _ (show mb ≠ g by omega)]
   exact hcell j u hj
end
end Go.Proofs.YtnobggabjpcbfaaGreat
namespace Go.Proofs.YtnobggabjpcbfaaGreat
open Go.RowKit
theorem Tryz.infoClo : (Tryz.prog.info? 132).map (fun i => (i.zero, i.size, i.bytes)) = some (some (.agg #[.int .i64 0, .slice none 0 0]), 2, 32) := by kernel_rfl
theorem infoIntV : (Tryz.prog.info? 3).map (fun i => (i.zero, i.size, i.bytes)) = some (some (.int .i64 0), 1, 8) := by kernel_rfl
theorem Tryz.infoV : (Tryz.prog.info? 46).map (fun i => (i.zero, i.size, i.bytes)) = some (some (.agg #[.int .i64 0, .int .i64 0, .slice none 0 0]), 3, 40) := by kernel_rfl
section
variable {X Y : Nat → Prop} {B mb cb : Nat} {fv : Value} {inp : List Int} {fuel : FL} {s s1 : FSt} {cut stk rai : Bool} {x0 x1 x2 : Value} {W W' W1 W2 : World} {o : FOut}
theorem cell_same {w : World} {a : Addr} {u : Value} (h : w.cell? a = some u) (v : Value) : (w.setCell a v).cell? a = some v := by
 first | exact World.cell?_setCell_same h | exact World.cell?_setCell_same _ _ _ h | exact World.cell?_setCell_same w a v h
theorem own_shape {w : World} {base : Nat} {e : TypeId} {size : Nat} {v : Value} {n : Nat} {xs : List Value} (h : w.ownsRow base e size v n xs) : ∃ A k c, v = .slice A k c := by
 rcases h.2 with ⟨rfl, _⟩ | ⟨g, cap, cur, rfl, _⟩ <;> exact ⟨_, _, _, rfl⟩
theorem below_al1 (w : World) (o : Obj) : Below w.heap.size w (w.alloc o) := (Below.refl _ _).alloc (Nat.le_refl _) o
theorem below_al2 (w : World) (o p : Obj) : Below w.heap.size w ((w.alloc o).alloc p) := (below_al1 w o).alloc (below_al1 w o).size p
theorem rowOf_block {w : World} {b : Nat} {cs : Array Value} {T : TypeId} {fr : Nat × Nat} (h : w.heap[b]? = some (.cells cs T fr)) : RowI w (some ⟨b, 0, none⟩) cs.toList :=
 .inr ⟨_, rfl, fun j u hj => by rw [add_plain]; simp [World.cell?, h]; simpa using hj⟩
end
end Go.Proofs.YtnobggabjpcbfaaGreat
namespace Go.Proofs.YtnobggabjpcbfaaGreat
open Go.RowKit
section
variable {X Y : Nat → Prop} {B mb cb : Nat} {fv : Value} {inp : List Int} {fuel : FL} {s s1 : FSt} {cut stk rai : Bool} {x0 x1 x2 : Value} {W W' W1 W2 : World} {o : FOut}
theorem VIn.one_ {nf nc : Nat} {v : PV} {a b c : Value} (h : VIn X nf nc W v a b c) : ∃ k n A l d, a = .int .i64 k ∧ b = .int .i64 n ∧ c = .slice A l d ∧ (k = 4 → ∃ i : Nat, v = .ref i ∧ i < nc ∧ n = (i : Int)) ∧ (k ≠ 4 → ∀ i, v ≠ .ref i) ∧ (k = 1 → v = .int n) ∧ (k ≠ 1 → ∀ i, v ≠ .int i) ∧ (k = 3 → ∃ i : Nat, v = .fn i ∧ i < nf ∧ n = (i : Int)) ∧ (k ≠ 3 → ∀ i, v ≠ .fn i) := by
 cases h with
 | int n => exact ⟨1, n, none, 0, 0, rfl, rfl, rfl, by omega, by simp, by simp, by simp, by omega, by simp⟩
 | fn i h => exact ⟨3, i, none, 0, 0, rfl, rfl, rfl, by omega, by simp, by omega, by simp, fun _ => ⟨i, rfl, h, rfl⟩, by simp⟩
 | ref i h => exact ⟨4, i, none, 0, 0, rfl, rfl, rfl, fun _ => ⟨i, rfl, h, rfl⟩, by simp, by omega, by simp, by omega, by simp⟩
 | blk t ks A c b o G0 G1 G2 hl hb hA c0 c1 c2 hsub => exact ⟨2, t, A, ks.length, c, rfl, rfl, rfl, by omega, by simp, by omega, by simp, by omega, by simp⟩
theorem box_world (h : RGo X B mb cb fv inp fuel s W) (V0 : World) (hV0 : (W.alloc (.cells #[.int .i64 0, .int .i64 0, .slice none 0 0] 46)) = V0) :
 Below W.heap.size W V0 ∧ V0.heap[W.heap.size]? = some (.cells #[.int .i64 0, .int .i64 0, .slice none 0 0] 46 (0, 0)) ∧ RGo (Bx X W.heap.size) B mb cb fv inp fuel s V0 ∧ W.heap.size < V0.heap.size := by
 have hb1 : Below W.heap.size W (W.alloc (.cells #[.int .i64 0, .int .i64 0, .slice none 0 0] 46)) := (Below.refl _ _).alloc (Nat.le_refl _) _
 rw [hV0] at hb1
 have hbx : V0.heap[W.heap.size]? = some (.cells #[.int .i64 0, .int .i64 0, .slice none 0 0] 46 (0, 0)) := by rw [← hV0]; exact new1 _ _
 exact ⟨hb1, hbx, (RIn.bx h (by omega)).below hb1, (Array.getElem?_eq_some_iff.1 hbx).1⟩
theorem rprim_read (h : RGo X B mb cb fv inp fuel s W) (hlim : fuel.lim < fuel.f) (L : Value) :
 Calls Tryz.prog 72 #[.pointer (some ⟨mb, 0, none⟩), .int .i64 14, L] W (ROut X B mb cb fv inp fuel.up s (readF inp s) W) := by
 generalize hV0 : (W.alloc (.cells #[.int .i64 0, .int .i64 0, .slice none 0 0] 46)) = V0
 obtain ⟨hb1, hbx, hg0, hsz⟩ := box_world h V0 hV0
 have HS := Lib.hid ((rread_any hg0 hlim).mono fun e w' hp => ROut.box (W := W) (b := W.heap.size) h.hX h.hBW (own_lt h) (Nat.le_refl _) hbx (Stp.below hb1 h.hBW) ⟨Nat.le_refl _, Nat.le_refl _⟩ hp)
 clear h hb1 hbx hg0 hsz hlim
 generalize readF inp s = o at *
 go_enter Tryz.func72, Tryz.ntmps72
 go_wp2_with (go_at_call 89; refine HS.out.mono ?_; rintro e w' ⟨k, n, A, l, d, rfl, ⟨f0, f1, f2, ff⟩, hR⟩; have HR := Lib.hid hR; clear hR)
 exact bodyPost_ret (v := .agg #[.int .i64 k, .int .i64 n, .slice A l d]) (by simp [results, Tryz.results72, go_sem, f0, f1, f2]) rfl HR.out
theorem rprim_raise (h : RGo X B mb cb fv inp fuel s W) {A : Option Addr} {l : List PV} {c : Nat} (hv : VRow X s.made.length s.cells.length W A l) (hl : 0 < l.length) :
 Calls Tryz.prog 72 #[.pointer (some ⟨mb, 0, none⟩), .int .i64 15, .slice A l.length c] W (ROut X B mb cb fv inp fuel s (raiseO l[0] s) W) := by
 generalize hV0 : (W.alloc (.cells #[.int .i64 0, .int .i64 0, .slice none 0 0] 46)) = V0
 obtain ⟨hb1, hbx, hg0, hsz⟩ := box_world h V0 hV0
 have hv0 := (hv.bx (b := W.heap.size) (by omega)).step (KpX.below hb1) (Nat.le_refl _) (Nat.le_refl _)
 obtain ⟨bb, oo, a0, a1, a2, rfl, c0, c1, c2, hsub⟩ := hv0.at_ hl
 have HS := Lib.hid (fun (V : World) (hb : Below V0.heap.size V0 V) => (rraise_any (hg0.below hb) (hsub.step (KpX.below hb) (Nat.le_refl _) (Nat.le_refl _))).mono fun e w' hp => ROut.box (W := W) (b := W.heap.size) h.hX h.hBW (own_lt h) (Nat.le_refl _) ((hb.block _ hsz).trans hbx) (Stp.below (hb1.trans (hb.mono hb1.size)) h.hBW) ⟨Nat.le_refl _, Nat.le_refl _⟩ hp)
 obtain ⟨k1, n1, A1, l1, d1, rfl, rfl, rfl⟩ := hsub.shape
 clear h hb1 hbx hg0 hsz hv hv0 hsub
 generalize raiseO l[0] s = o at *
 generalize l.length = kl at *
 simp only [Nat.zero_mul, Nat.add_zero] at c0 c1 c2
 have HB0 := Lib.hid (show Below V0.heap.size V0 V0.drew from (Below.refl _ _).drew)
 have HB1 := Lib.hid (show Below V0.heap.size V0 V0 from (Below.refl _ _))
 go_enter Tryz.func72, Tryz.ntmps72
 go_wp2_with (go_at_call 90; refine (HS.out V0 HB1.out).mono ?_; rintro e w' ⟨k, n, A, l, d, rfl, ⟨f0, f1, f2, ff⟩, hR⟩; have HR := Lib.hid hR; clear hR)
 exact bodyPost_ret (v := .agg #[.int .i64 k, .int .i64 n, .slice A l d]) (by simp [results, Tryz.results72, go_sem, f0, f1, f2]) rfl HR.out
theorem VRow.ne {nf nc p b : Nat} {o : Nat} {l : List PV} {A : Option Addr} (h : VRow (Bx X p) nf nc W A l) {i : Nat} (hi : i < l.length) (hA : A = some ⟨b, o, none⟩) : p ≠ b := by
 rcases h with rfl | ⟨b', o', G0, G1, G2, hA', hx, -⟩
 · simp at hi
 · rw [hA] at hA'
   simp only [Option.some.injEq, Addr.mk.injEq, and_true] at hA'
   obtain ⟨rfl, rfl⟩ := hA'
   exact fun e => hx (.inr e.symm)
def getO (a : PV) (s : FSt) : FOut := match a with | .ref i => (.val (s.cells[i]?.getD default), s) | _ => (.stuck, s)
theorem rprim_get (h : RGo X B mb cb fv inp fuel s W) {A : Option Addr} {l : List PV} {c : Nat} (hv : VRow X s.made.length s.cells.length W A l) (hl : 0 < l.length) :
 Calls Tryz.prog 72 #[.pointer (some ⟨mb, 0, none⟩), .int .i64 11, .slice A l.length c] W (ROut X B mb cb fv inp fuel s (getO l[0] s) W) := by
 generalize hV0 : (W.alloc (.cells #[.int .i64 0, .int .i64 0, .slice none 0 0] 46)) = V0
 obtain ⟨hb1, hbx, hg0, hsz⟩ := box_world h V0 hV0
 have hv0 := (hv.bx (b := W.heap.size) (by omega)).step (KpX.below hb1) (Nat.le_refl _) (Nat.le_refl _)
 obtain ⟨bb, oo, a0, a1, a2, rfl, c0, c1, c2, hsub⟩ := hv0.at_ hl
 have HS := Lib.hid ((rstop_any hg0).mono fun e w' hp => ROut.box (W := W) (b := W.heap.size) h.hX h.hBW (own_lt h) (Nat.le_refl _) hbx (Stp.below hb1 h.hBW) ⟨Nat.le_refl _, Nat.le_refl _⟩ (ROut.stop hp))
 obtain ⟨k1, n1, A1, l1, d1, rfl, rfl, rfl, hr, hnr, -⟩ := hsub.one_
 obtain ⟨o, ho⟩ : ∃ o, getO l[0] s = o := ⟨_, rfl⟩
 rw [ho]
 simp only [Nat.zero_mul, Nat.add_zero] at c0 c1 c2
 have hll : (0 : Int) < (l.length : Int) := by omega
 by_cases hk : k1 = 4
 · subst hk
   obtain ⟨i, hi, hic, rfl⟩ := hr rfl
   obtain ⟨Ac, cc, xs, q5, -, -, hrow⟩ := hg0.celL
   obtain ⟨b2, o2, e0, e1, e2, rfl, d0, d1', d2, hcv⟩ := hrow.at_ hic
   obtain ⟨k3, n3, A3, l3, d3, rfl, rfl, rfl⟩ := hcv.shape
   have hn1 : W.heap.size ≠ bb := hv0.ne hl rfl
   have hn2 : W.heap.size ≠ mb := by have := (own_lt h).1; omega
   have hn3 : W.heap.size ≠ b2 := hrow.ne hic rfl
   obtain rfl : o = (.val s.cells[i], s) := by rw [← ho, hi]; simp [getO, hic]
   obtain ⟨⟨f0, f1, f2, ff⟩, hR⟩ := ROut.box' (X := X) (fuel := fuel) (s1 := s) (o := (.val s.cells[i], s)) (W := W) (W1 := V0) (W2 := V0.drew) (b := W.heap.size) h.hX h.hBW (own_lt h) (Nat.le_refl _) hbx (Stp.below hb1 h.hBW) ⟨Nat.le_refl _, Nat.le_refl _⟩
    (show ROut (Bx X W.heap.size) B mb cb fv inp fuel s (.val s.cells[i], s) V0 (.returned (.agg #[.int .i64 k3, .int .i64 n3, .slice A3 l3 d3])) V0.drew from
     ⟨Stp.below (Below.refl _ _).drew hg0.hBW, ⟨Nat.le_refl _, Nat.le_refl _⟩, _, _, _, _, _, rfl, hg0.below (Below.refl _ _).drew, hcv.step (KpX.below (Below.refl _ _).drew) (Nat.le_refl _) (Nat.le_refl _)⟩)
   have HR := Lib.hid hR
   have hi0 : (0 : Int) ≤ (i : Int) := by omega
   have hil : (i : Int) < (s.cells.length : Int) := by omega
   have f0' : V0.cell? ⟨W.heap.size, 0, none⟩ = some (.int .i64 0) := f0
   have f1' : V0.cell? ⟨W.heap.size, 1, none⟩ = some (.int .i64 0) := f1
   have f2' : V0.cell? ⟨W.heap.size, 2, none⟩ = some (.slice none 0 0) := f2
   have ff' : ∀ i, V0.frozen? ⟨W.heap.size, i, none⟩ = false := ff
   clear h hb1 hbx hg0 hsz hv hv0 hsub HS hr hnr hrow hcv ho hi hR f0 f1 f2 ff
   generalize ((Res.val s.cells[i], s) : FOut) = o at *
   clear hic
   generalize l.length = kl at *
   generalize s.cells.length = cl at *
   have HB0 := Lib.hid (show Below V0.heap.size V0 V0.drew from (Below.refl _ _).drew)
   have HB1 := Lib.hid (show Below V0.heap.size V0 V0 from (Below.refl _ _))
   go_enter Tryz.func72, Tryz.ntmps72
   go_wp2_with fail
   go_region
   all_goals go_wp2_with fail
   all_goals exact bodyPost_ret (v := .agg #[.int .i64 k3, .int .i64 n3, .slice A3 l3 d3]) (by simp [results, Tryz.results72, go_sem, f0', f1', f2']) rfl HR.out
 · obtain rfl : o = (.stuck, s) := by
    rw [← ho]
    have := hnr hk
    unfold getO
    split
    · rename_i i hi; exact absurd hi (this i)
    · rfl
   have hk4 : (k1 == 4) = false := by simpa using hk
   have hk5 : (k1 != 4) = true := by simpa using hk
   clear h hb1 hbx hg0 hsz hv hv0 hsub hr hnr ho hk
   generalize l.length = kl at *
   go_enter Tryz.func72, Tryz.ntmps72
   go_wp2_with (go_at_call 49; refine HS.out.mono ?_; rintro e w' ⟨k, n, A, l, d, rfl, ⟨f0, f1, f2, ff⟩, hR⟩; have HR := Lib.hid hR; clear hR)
   exact bodyPost_ret (v := .agg #[.int .i64 k, .int .i64 n, .slice A l d]) (by simp [results, Tryz.results72, go_sem, f0, f1, f2]) rfl HR.out
end
end Go.Proofs.YtnobggabjpcbfaaGreat
