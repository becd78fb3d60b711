/-
 2 texts of this seat in one: Y4 Y0.
-/
import Derived.Test.YtnobggabjpcbfaaGreatQI45
set_option maxRecDepth 100000
set_option maxHeartbeats 16000000
set_option linter.unusedVariables false
set_option linter.unusedSimpArgs false
namespace Go.Proofs.YtnobggabjpcbfaaGreat
open Go.RowKit
mutual
theorem deepA_dp : ∀ (t : Anf) (m : Nat) (n : Int), deepA t m n ≤ max n (dpN t)
 | .ret _, m, n => by simp [deepA, dpN]; omega
 | .bind _ _ _ _ _ bl r, m, n => by
  have h1 := deepL_dp bl m n
  have h2 := deepA_dp r m (deepL bl m n)
  simp only [deepA, dpN]
  omega
theorem deepL_dp : ∀ (l : List Anf) (m : Nat) (n : Int), deepL l m n ≤ max n (dpL l)
 | [], m, n => by simp [deepL, dpL]; omega
 | c :: cs, 0, n => by
  have h2 := deepL_dp cs 0 n
  simp only [deepL, dpL]
  omega
 | c :: cs, m + 1, n => by
  have h1 := deepA_dp c m 0
  have h2 := deepL_dp cs (m + 1) (max n (deepA c m 0 + 1))
  simp only [deepL, dpL]
  omega
end
theorem sizeB_tot (t : Anf) (most : Int) : sizeB t most ≤ totA t := by
 have h1 := (sizeA_le most t t.len).2
 have h2 := subA_len t
 unfold sizeB
 omega
theorem longB_no : ∀ (l : List Anf) (n : Int), (∀ a ∈ l, dpN a + 1 ≤ 400) → n + ((l.map totA).sum : Nat) ≤ 65536 → longB l n = false
 | [], n, _, _ => rfl
 | b :: bs, n, hd, hn => by
  simp only [List.map_cons, List.sum_cons] at hn
  have h1 := sizeB_tot b 65536
  have h2 := hd b (by simp)
  have h3 := deepA_dp b 400 0
  have h4 : deepB b 400 ≤ 400 := by unfold deepB; omega
  have h5 := longB_no bs (n + sizeB b 65536) (fun a ha => hd a (by simp [ha])) (by omega)
  unfold longB
  rw [if_neg (by omega)]
  exact h5
theorem totF_sum : ∀ (l : List FFun), ((l.map (·.body)).map totA).sum = totF l
 | [] => rfl
 | g :: gs => by simp only [List.map_cons, List.sum_cons, totF, totF_sum gs]
end Go.Proofs.YtnobggabjpcbfaaGreat
namespace Go.Proofs.YtnobggabjpcbfaaGreat
open Go.RowKit Go.Proofs.YtnobggabjpcbfaaGreatW.PrintLast
structure FactW where
 P : World → Prop
 F : Nat → Prop
 st : ∀ w w', P w → w.heap.size ≤ w'.heap.size → (∀ k, F k → w'.heap[k]? = w.heap[k]?) → P w'
def nilFa : FactW := ⟨fun _ => True, fun _ => False, fun _ _ _ _ _ => trivial⟩
structure Reg (V : World) (c : List Bool) (f : List FactW) (w : World) : Prop where
 bel : Below V.heap.size V w
 hold : ∀ i : Nat, c[i]?.getD false = true → (f[i]?.getD nilFa).P w ∧ ∀ k, (f[i]?.getD nilFa).F k → V.heap.size ≤ k ∧ k < w.heap.size
 apart : ∀ i j : Nat, i ≠ j → c[i]?.getD false = true → c[j]?.getD false = true → ∀ k, (f[i]?.getD nilFa).F k → (f[j]?.getD nilFa).F k → False
structure Chg (w w' : World) (M : Nat → Prop) : Prop where
 os : w'.os = w.os
 tape : w'.tape = w.tape
 output : w'.output = w.output
 size : w.heap.size ≤ w'.heap.size
 block : ∀ k, k < w.heap.size → ¬ M k → w'.heap[k]? = w.heap[k]?
theorem Chg.none {w w' : World} (h : Below w.heap.size w w') : Chg w w' (fun _ => False) := ⟨h.os, h.tape, h.output, h.size, fun k hk _ => h.block k hk⟩
theorem Chg.own {w w' : World} {v : Value} (h : w.grownBy w' v.ownBlock) : Chg w w' (fun k => v.ownBlock = some k) := ⟨h.os, h.tape, h.output, h.size, fun k hk hn => h.block k hk (fun e => hn e.symm)⟩
theorem Reg.start {V w : World} {c : List Bool} {f : List FactW} (hb : Below V.heap.size V w) (hc : ∀ i : Nat, c[i]?.getD false = false) : Reg V c f w :=
 ⟨hb, fun i h => Bool.noConfusion ((hc i).symm.trans h), fun i _ _ h => Bool.noConfusion ((hc i).symm.trans h)⟩
theorem Reg.step {V w w' : World} {c c' : List Bool} {f f' : List FactW} (h : Reg V c f w) {M : Nat → Prop} (hg : Chg w w' M) (src new : Nat) (hM : ∀ k, M k → c[src]?.getD false = true ∧ (f[src]?.getD nilFa).F k)
 (hk : ∀ j : Nat, j ≠ new → c'[j]?.getD false = true → c[j]?.getD false = true ∧ f'[j]?.getD nilFa = f[j]?.getD nilFa ∧ j ≠ src)
 (hn : (f'[new]?.getD nilFa).P w' ∧ ∀ k, (f'[new]?.getD nilFa).F k → k < w'.heap.size ∧ (w.heap.size ≤ k ∨ c[src]?.getD false = true ∧ (f[src]?.getD nilFa).F k)) : Reg V c' f' w' := by
 have hMV : ∀ k, M k → V.heap.size ≤ k := fun k hk => ((h.hold src (hM k hk).1).2 k (hM k hk).2).1
 have hnew : ∀ k, (f'[new]?.getD nilFa).F k → V.heap.size ≤ k := fun k hk => by
  rcases (hn.2 k hk).2 with h1 | ⟨h1, h2⟩
  · exact Nat.le_trans h.bel.size h1
  · exact ((h.hold src h1).2 k h2).1
 have hold : ∀ j : Nat, j ≠ new → c'[j]?.getD false = true → ∀ k, (f'[j]?.getD nilFa).F k → V.heap.size ≤ k ∧ k < w.heap.size ∧ ¬ M k := fun j hj hc k hF => by
  obtain ⟨h1, h2, h3⟩ := hk j hj hc
  rw [h2] at hF
  obtain ⟨g1, g2⟩ := (h.hold j h1).2 k hF
  exact ⟨g1, g2, fun hm => h.apart j src h3 h1 (hM k hm).1 k hF (hM k hm).2⟩
 have cross : ∀ j : Nat, j ≠ new → c'[j]?.getD false = true → ∀ k, (f'[j]?.getD nilFa).F k → (f'[new]?.getD nilFa).F k → False := fun j hj hc k hF hG => by
  obtain ⟨h1, h2, h3⟩ := hk j hj hc
  have g := hold j hj hc k hF
  rcases (hn.2 k hG).2 with k1 | ⟨k1, k2⟩
  · omega
  · rw [h2] at hF
    exact h.apart j src h3 h1 k1 k hF k2
 refine ⟨⟨hg.os.trans h.bel.os, hg.tape.trans h.bel.tape, hg.output.trans h.bel.output, Nat.le_trans h.bel.size hg.size, fun k hk' => (hg.block k (Nat.lt_of_lt_of_le hk' h.bel.size) (fun hm => by have := hMV k hm; omega)).trans (h.bel.block k hk')⟩, fun j hc => ?_, fun i j hij hi hj k hF hG => ?_⟩
 · by_cases hj : j = new
   · subst hj
     exact ⟨hn.1, fun k hF => ⟨hnew k hF, (hn.2 k hF).1⟩⟩
   · obtain ⟨h1, h2, h3⟩ := hk j hj hc
     refine ⟨?_, fun k hF => ?_⟩
     · rw [h2]
       exact (f[j]?.getD nilFa).st w w' (h.hold j h1).1 hg.size (fun k hF => hg.block k ((h.hold j h1).2 k hF).2 (fun hm => h.apart j src h3 h1 (hM k hm).1 k hF (hM k hm).2))
     · obtain ⟨g1, g2, _⟩ := hold j hj hc k hF
       exact ⟨g1, Nat.lt_of_lt_of_le g2 hg.size⟩
 · by_cases h1 : i = new
   · subst h1
     exact cross j (Ne.symm hij) hj k hG hF
   · by_cases h2 : j = new
     · subst h2
       exact cross i h1 hi k hF hG
     · obtain ⟨a1, a2, a3⟩ := hk i h1 hi
       obtain ⟨b1, b2, b3⟩ := hk j h2 hj
       rw [a2] at hF
       rw [b2] at hG
       exact h.apart i j hij a1 b1 k hF hG
/-! ### facts -/
def ownFa (base : Nat) (e : TypeId) (size : Nat) (v : Value) (n : Nat) (xs : List Value) : FactW := ⟨fun w => w.ownsRow base e size v n xs, fun k => v.ownBlock = some k, fun _ _ h _ hk => ownsRow_same h (fun k hk' => hk k hk')⟩
def blkFa (X : Nat) (o : Obj) : FactW := ⟨fun w => w.heap[X]? = some o, fun k => k = X, fun _ _ h _ hk => (hk X rfl).trans h⟩
theorem ints_st {w w' : World} {A : Option Addr} {ks : List Int} (h : IntsIn w.heap.size w A ks) (hs : w.heap.size ≤ w'.heap.size) (hk : ∀ k, (ks ≠ [] ∧ ∃ a, A = some a ∧ a.block = k) → w'.heap[k]? = w.heap[k]?) : IntsIn w'.heap.size w' A ks := by
 refine ⟨h.1, ?_⟩
 by_cases h0 : ks = []
 · exact .inl h0
 · rcases h.2 with h1 | ⟨b, o, rfl, hlt, hc⟩
   · exact absurd h1 h0
   · exact .inr ⟨b, o, rfl, Nat.lt_of_lt_of_le hlt hs, fun j hj => (cell_of_heap (hk b ⟨h0, _, rfl, rfl⟩) _).trans (hc j hj)⟩
def intsFa (A : Option Addr) (ks : List Int) : FactW := ⟨fun w => IntsIn w.heap.size w A ks, fun k => ks ≠ [] ∧ ∃ a, A = some a ∧ a.block = k, fun _ _ h hs hk => ints_st h hs hk⟩
theorem ints_foot {w : World} {A : Option Addr} {ks : List Int} {n : Nat} (h : IntsIn w.heap.size w A ks) (hlo : ∀ a, A = some a → n ≤ a.block) : ∀ k, (intsFa A ks).F k → k < w.heap.size ∧ n ≤ k := by
 rintro k ⟨h0, a, rfl, rfl⟩
 rcases h.2 with h1 | ⟨b, o, h1, hlt, _⟩
 · exact absurd h1 h0
 · cases h1; exact ⟨hlt, hlo _ rfl⟩
/-! ### steps -/
def Kept (c c' : List Bool) (f f' : List FactW) (new : Nat) : Prop := ∀ j : Nat, j ≠ new → c'[j]?.getD false = true → c[j]?.getD false = true ∧ f'[j]?.getD nilFa = f[j]?.getD nilFa
def KeptBut (c c' : List Bool) (f f' : List FactW) (src new : Nat) : Prop := ∀ j : Nat, j ≠ new → c'[j]?.getD false = true → c[j]?.getD false = true ∧ f'[j]?.getD nilFa = f[j]?.getD nilFa ∧ j ≠ src
section
variable {V w w' : World} {c c' : List Bool} {f f' : List FactW}
theorem Reg.call (h : Reg V c f w) (new : Nat) (hb : Below w.heap.size w w') (hn : (f'[new]?.getD nilFa).P w' ∧ ∀ k, (f'[new]?.getD nilFa).F k → k < w'.heap.size ∧ w.heap.size ≤ k)
 (hk : Kept c c' f f' new) : Reg V c' f' w' := by
 refine h.step (Chg.none hb) c.length new (fun k hk => hk.elim) (fun j hj hc => ⟨(hk j hj hc).1, (hk j hj hc).2, ?_⟩) ⟨hn.1, fun k hF => ⟨(hn.2 k hF).1, .inl (hn.2 k hF).2⟩⟩
 rintro rfl
 have := (hk _ hj hc).1
 simp at this
theorem Reg.ints (h : Reg V c f w) (new : Nat) {A : Option Addr} {ks : List Int} (hb : Below w.heap.size w w') (hf : f'[new]?.getD nilFa = intsFa A ks) (hi : IntsIn w'.heap.size w' A ks) (hlo : ∀ a, A = some a → w.heap.size ≤ a.block) (hk : Kept c c' f f' new) : Reg V c' f' w' := by
 refine h.call new hb ?_ hk
 rw [hf]
 exact ⟨hi, ints_foot hi hlo⟩
theorem Reg.new (h : Reg V c f w) (new : Nat) {o : Obj} (hf : f'[new]?.getD nilFa = blkFa w.heap.size o) (hk : Kept c c' f f' new) : Reg V c' f' (w.alloc o) := by
 refine h.call new ((Below.refl _ _).alloc (Nat.le_refl _) _) ?_ hk
 rw [hf]
 exact ⟨World.alloc_heap_new w o, fun k hk => by cases hk; exact ⟨by simp, Nat.le_refl _⟩⟩
theorem Reg.row0 (h : Reg V c f w) (new : Nat) {e : TypeId} {size : Nat} (hf : f'[new]?.getD nilFa = ownFa V.heap.size e size (.slice (some ⟨w.heap.size, 0, none⟩) 0 0) 0 []) (hk : Kept c c' f f' new) : Reg V c' f' (w.alloc (.cells #[] e)) := by
 refine h.call new ((Below.refl _ _).alloc (Nat.le_refl _) _) ?_ hk
 rw [hf]
 refine ⟨own_empty w h.bel.size e size, fun k hk => ?_⟩
 have : k = w.heap.size := by
  change some w.heap.size = some k at hk
  cases hk; rfl
 subst this
 exact ⟨by simp, Nat.le_refl _⟩
theorem Reg.app (h : Reg V c f w) (src new : Nat) {base : Nat} {e : TypeId} {size n : Nat} {v v' : Value} {xs : List Value} (hc : c[src]?.getD false = true) (hs : f[src]?.getD nilFa = ownFa base e size v n xs) (hg : w.grownBy w' v.ownBlock) {m : Nat} {ys : List Value}
 (hf : f'[new]?.getD nilFa = ownFa base e size v' m ys) (hown : w'.ownsRow base e size v' m ys) (ho : v'.ownBlock = v.ownBlock ∨ v'.ownBlock = some w.heap.size) (hk : KeptBut c c' f f' src new) : Reg V c' f' w' := by
 refine h.step (Chg.own hg) src new (fun k hk => ⟨hc, by rw [hs]; exact hk⟩) hk ?_
 rw [hf, hs]
 refine ⟨hown, fun k hF => ⟨own_lt_ hown k hF, ?_⟩⟩
 rcases ho with h1 | h1
 · exact .inr ⟨hc, h1.symm.trans hF⟩
 · left
   have hF' : v'.ownBlock = some k := hF
   rw [h1] at hF'
   cases hF'
   exact Nat.le_refl _
theorem Reg.turn (h : Reg V c f w) (src new : Nat) {X : Nat} {o o' : Obj} (hc : c[src]?.getD false = true) (hs : f[src]?.getD nilFa = blkFa X o) (hg : Chg w w' (fun k => k = X)) (hf : f'[new]?.getD nilFa = blkFa X o') (ho : w'.heap[X]? = some o') (hk : KeptBut c c' f f' src new) : Reg V c' f' w' := by
 refine h.step hg src new (fun k hk => ⟨hc, by rw [hs]; exact hk⟩) hk ?_
 rw [hf, hs]
 refine ⟨ho, fun k hF => ⟨?_, .inr ⟨hc, hF⟩⟩⟩
 cases hF
 exact (Array.getElem?_eq_some_iff.1 ho).1
end
/-! ### ends -/
def zeroC : Obj := .cells #[.int .i64 0, .int .i64 0, .slice none 0 0, .int .i64 0] 35 (0, 0)
def endC (pe : PEnd) (A : Option Addr) (c : Nat) : Obj := .cells #[.int .i64 pe.kind, .int .i64 pe.n, .slice A pe.out.length c, .int .i64 pe.steps] 35 (0, 0)
theorem zeroC_cells {V : World} {b : Nat} (h : V.heap[b]? = some zeroC) : V.cell? ⟨b, 0, none⟩ = some (.int .i64 0) ∧ V.cell? ⟨b, 1, none⟩ = some (.int .i64 0) ∧ V.cell? ⟨b, 2, none⟩ = some (.slice none 0 0) ∧ V.cell? ⟨b, 3, none⟩ = some (.int .i64 0) ∧ ∀ i, V.frozen? ⟨b, i, none⟩ = false := by
 unfold zeroC at h
 exact ⟨by simp [World.cell?, h], by simp [World.cell?, h], by simp [World.cell?, h], by simp [World.cell?, h], fun i => by simp [World.frozen?, h]⟩
def setE (w : World) (X : Nat) (pe : PEnd) (A : Option Addr) (c : Nat) : World :=
 (((w.setCell ⟨X, 0, none⟩ (.int .i64 pe.kind)).setCell ⟨X, 1, none⟩ (.int .i64 pe.n)).setCell ⟨X, 2, none⟩ (.slice A pe.out.length c)).setCell ⟨X, 3, none⟩ (.int .i64 pe.steps)
theorem setE_self {w : World} {X : Nat} (h : w.heap[X]? = some zeroC) (pe : PEnd) (A : Option Addr) (c : Nat) : (setE w X pe A c).heap[X]? = some (endC pe A c) := by
 unfold setE
 rw [heap_set_self (heap_set_self (heap_set_self (heap_set_self h 0 _) 1 _) 2 _) 3 _]; rfl
theorem chg_setE (w : World) (X : Nat) (pe : PEnd) (A : Option Addr) (c : Nat) : Chg w (setE w X pe A c) (fun k => k = X) := by
 refine ⟨rfl, rfl, rfl, by simp [setE, World.setCell], fun k _ hk => ?_⟩
 unfold setE
 rw [heap_set_ne hk, heap_set_ne hk, heap_set_ne hk, heap_set_ne hk]
/-! ### four cells laid into a block -/
theorem own_size_ {w : World} {base : Nat} {e : TypeId} {size n m : Nat} {v : Value} {xs ys : List Value} (hm : m = n) (hy : ys = xs) (h : w.ownsRow base e size v n xs) : w.ownsRow base e size v m ys := by subst hm; subst hy; exact h
theorem own_slice {w : World} {base : Nat} {e : TypeId} {size n : Nat} {v : Value} {xs : List Value} (h : w.ownsRow base e size v n xs) : ∃ A c, v = .slice A n c := by
 rcases h.2 with ⟨rfl, h0⟩ | ⟨g, cap, cur, rfl, _⟩
 · exact ⟨none, 0, by rw [h0]⟩
 · exact ⟨_, _, rfl⟩
def EndAt (V : World) (X : Nat) (pe : PEnd) : Prop := ∃ A c, V.heap[X]? = some (.cells #[.int .i64 pe.kind, .int .i64 pe.n, .slice A pe.out.length c, .int .i64 pe.steps] 35 (0, 0)) ∧ IntsIn V.heap.size V A pe.out
theorem endAt_cells {V : World} {X : Nat} {pe : PEnd} (h : EndAt V X pe) : ∃ A c, V.cell? ⟨X, 0, none⟩ = some (.int .i64 pe.kind) ∧ V.cell? ⟨X, 1, none⟩ = some (.int .i64 pe.n) ∧ V.cell? ⟨X, 2, none⟩ = some (.slice A pe.out.length c) ∧ V.cell? ⟨X, 3, none⟩ = some (.int .i64 pe.steps) ∧ IntsIn V.heap.size V A pe.out := by
 obtain ⟨A, c, h9, hi⟩ := h
 exact ⟨A, c, by simp [World.cell?, h9], by simp [World.cell?, h9], by simp [World.cell?, h9], by simp [World.cell?, h9], hi⟩
theorem putSel_skipY {b : Nat → Bool} {i : Nat} : ∀ {l : List (Nat × Tmp × Value)} {a : Act}, (l.all fun e => !(e.1 == i)) = true → putSel a (up b i) l = putSel a b l
 | [], a, _ => rfl
 | e :: l, a, h => by
  rw [List.all_cons, Bool.and_eq_true] at h
  have he : e.1 ≠ i := by simpa using h.1
  unfold putSel
  rw [up_ne he]
  exact putSel_skipY h.2
/-! ### a region whose turns follow one another -/
end Go.Proofs.YtnobggabjpcbfaaGreat
