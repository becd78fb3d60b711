/-
  2 texts of this seat in one: Y0 Y1.
-/
import Derived.Test.YtnobggabjpcbfaaQM10
import Derived.Test.YtnobggabjpcbfaaQM1
import Derived.Test.YtnobggabjpcbfaaQM9
/-
  Drawn regions: what is known of a world whose blocks are made and turned in whatever order.
-/
set_option linter.unusedVariables false
set_option linter.unusedSimpArgs false
namespace Go.Proofs.Ytnobggabjpcbfaa
open Go.RowKit Go.Proofs.YtnobggabjpcbfaaW.PrintLast

/-- what is said of a world, and the blocks that it stands on -/
structure FactW where
  P : World → Prop
  F : Nat → Prop
  st : ∀ w w', P w → w.heap.size ≤ w'.heap.size → (∀ k, F k → w'.heap[k]? = w.heap[k]?) → P w'
def nilFa : FactW := ⟨fun _ => True, fun _ => False, fun _ _ _ _ _ => trivial⟩
/-- what holds, by what is listed: each fact where its condition does; what they stand on is new, and no two share a block -/
structure Reg (V : World) (c : List Bool) (f : List FactW) (w : World) : Prop where
  bel : Below V.heap.size V w
  hold : ∀ i : Nat, c[i]?.getD false = true → (f[i]?.getD nilFa).P w ∧ ∀ k, (f[i]?.getD nilFa).F k → V.heap.size ≤ k ∧ k < w.heap.size
  apart : ∀ i j : Nat, i ≠ j → c[i]?.getD false = true → c[j]?.getD false = true → ∀ k, (f[i]?.getD nilFa).F k → (f[j]?.getD nilFa).F k → False
/-- a change that turns no old block but some -/
structure Chg (w w' : World) (M : Nat → Prop) : Prop where
  os : w'.os = w.os
  tape : w'.tape = w.tape
  output : w'.output = w.output
  size : w.heap.size ≤ w'.heap.size
  block : ∀ k, k < w.heap.size → ¬ M k → w'.heap[k]? = w.heap[k]?
theorem Chg.none {w w' : World} (h : Below w.heap.size w w') : Chg w w' (fun _ => False) := ⟨h.os, h.tape, h.output, h.size, fun k hk _ => h.block k hk⟩
theorem Chg.own {w w' : World} {v : Value} (h : w.grownBy w' v.ownBlock) : Chg w w' (fun k => v.ownBlock = some k) := ⟨h.os, h.tape, h.output, h.size, fun k hk hn => h.block k hk (fun e => hn e.symm)⟩
theorem Reg.start {V w : World} {c : List Bool} {f : List FactW} (hb : Below V.heap.size V w) (hc : ∀ i : Nat, c[i]?.getD false = false) : Reg V c f w :=
  ⟨hb, fun i h => Bool.noConfusion ((hc i).symm.trans h), fun i _ _ h => Bool.noConfusion ((hc i).symm.trans h)⟩
theorem Reg.step {V w w' : World} {c c' : List Bool} {f f' : List FactW} (h : Reg V c f w) {M : Nat → Prop} (hg : Chg w w' M) (src new : Nat) (hM : ∀ k, M k → c[src]?.getD false = true ∧ (f[src]?.getD nilFa).F k)
    (hk : ∀ j : Nat, j ≠ new → c'[j]?.getD false = true → c[j]?.getD false = true ∧ f'[j]?.getD nilFa = f[j]?.getD nilFa ∧ j ≠ src)
    (hn : (f'[new]?.getD nilFa).P w' ∧ ∀ k, (f'[new]?.getD nilFa).F k → k < w'.heap.size ∧ (w.heap.size ≤ k ∨ c[src]?.getD false = true ∧ (f[src]?.getD nilFa).F k)) : Reg V c' f' w' := by
  have hMV : ∀ k, M k → V.heap.size ≤ k := fun k hk => ((h.hold src (hM k hk).1).2 k (hM k hk).2).1
  have hnew : ∀ k, (f'[new]?.getD nilFa).F k → V.heap.size ≤ k := fun k hk => by
    rcases (hn.2 k hk).2 with h1 | ⟨h1, h2⟩
    · exact Nat.le_trans h.bel.size h1
    · exact ((h.hold src h1).2 k h2).1
  have hold : ∀ j : Nat, j ≠ new → c'[j]?.getD false = true → ∀ k, (f'[j]?.getD nilFa).F k → V.heap.size ≤ k ∧ k < w.heap.size ∧ ¬ M k := fun j hj hc k hF => by
    obtain ⟨h1, h2, h3⟩ := hk j hj hc
    rw [h2] at hF
    obtain ⟨g1, g2⟩ := (h.hold j h1).2 k hF
    exact ⟨g1, g2, fun hm => h.apart j src h3 h1 (hM k hm).1 k hF (hM k hm).2⟩
  have cross : ∀ j : Nat, j ≠ new → c'[j]?.getD false = true → ∀ k, (f'[j]?.getD nilFa).F k → (f'[new]?.getD nilFa).F k → False := fun j hj hc k hF hG => by
    obtain ⟨h1, h2, h3⟩ := hk j hj hc
    have g := hold j hj hc k hF
    rcases (hn.2 k hG).2 with k1 | ⟨k1, k2⟩
    · omega
    · rw [h2] at hF
      exact h.apart j src h3 h1 k1 k hF k2
  refine ⟨⟨hg.os.trans h.bel.os, hg.tape.trans h.bel.tape, hg.output.trans h.bel.output, Nat.le_trans h.bel.size hg.size, fun k hk' => (hg.block k (Nat.lt_of_lt_of_le hk' h.bel.size) (fun hm => by have := hMV k hm; omega)).trans (h.bel.block k hk')⟩, fun j hc => ?_, fun i j hij hi hj k hF hG => ?_⟩
  · by_cases hj : j = new
    · subst hj
      exact ⟨hn.1, fun k hF => ⟨hnew k hF, (hn.2 k hF).1⟩⟩
    · obtain ⟨h1, h2, h3⟩ := hk j hj hc
      refine ⟨?_, fun k hF => ?_⟩
      · rw [h2]
        exact (f[j]?.getD nilFa).st w w' (h.hold j h1).1 hg.size (fun k hF => hg.block k ((h.hold j h1).2 k hF).2 (fun hm => h.apart j src h3 h1 (hM k hm).1 k hF (hM k hm).2))
      · obtain ⟨g1, g2, _⟩ := hold j hj hc k hF
        exact ⟨g1, Nat.lt_of_lt_of_le g2 hg.size⟩
  · by_cases h1 : i = new
    · subst h1
      exact cross j (Ne.symm hij) hj k hG hF
    · by_cases h2 : j = new
      · subst h2
        exact cross i h1 hi k hF hG
      · obtain ⟨a1, a2, a3⟩ := hk i h1 hi
        obtain ⟨b1, b2, b3⟩ := hk j h2 hj
        rw [a2] at hF
        rw [b2] at hG
        exact h.apart i j hij a1 b1 k hF hG
/-! ### facts -/
def ownFa (base : Nat) (e : TypeId) (size : Nat) (v : Value) (n : Nat) (xs : List Value) : FactW := ⟨fun w => w.ownsRow base e size v n xs, fun k => v.ownBlock = some k, fun _ _ h _ hk => ownsRow_same h (fun k hk' => hk k hk')⟩
def blkFa (X : Nat) (o : Obj) : FactW := ⟨fun w => w.heap[X]? = some o, fun k => k = X, fun _ _ h _ hk => (hk X rfl).trans h⟩
/-! ### steps -/
def Kept (c c' : List Bool) (f f' : List FactW) (new : Nat) : Prop := ∀ j : Nat, j ≠ new → c'[j]?.getD false = true → c[j]?.getD false = true ∧ f'[j]?.getD nilFa = f[j]?.getD nilFa
def KeptBut (c c' : List Bool) (f f' : List FactW) (src new : Nat) : Prop := ∀ j : Nat, j ≠ new → c'[j]?.getD false = true → c[j]?.getD false = true ∧ f'[j]?.getD nilFa = f[j]?.getD nilFa ∧ j ≠ src
section
variable {V w w' : World} {c c' : List Bool} {f f' : List FactW}
/-- what was not there stands in new blocks -/
theorem Reg.call (h : Reg V c f w) (new : Nat) (hb : Below w.heap.size w w') (hn : (f'[new]?.getD nilFa).P w' ∧ ∀ k, (f'[new]?.getD nilFa).F k → k < w'.heap.size ∧ w.heap.size ≤ k)
    (hk : Kept c c' f f' new) : Reg V c' f' w' := by
  refine h.step (Chg.none hb) c.length new (fun k hk => hk.elim) (fun j hj hc => ⟨(hk j hj hc).1, (hk j hj hc).2, ?_⟩) ⟨hn.1, fun k hF => ⟨(hn.2 k hF).1, .inl (hn.2 k hF).2⟩⟩
  rintro rfl
  have := (hk _ hj hc).1
  simp at this
/-- nothing is said of what is new -/
theorem Reg.later (h : Reg V c f w) (hb : Below w.heap.size w w') : Reg V c f w' := by
  refine h.step (Chg.none hb) (c.length + f.length) (c.length + f.length) (fun k hk => hk.elim) (fun j hj hc => ⟨hc, rfl, hj⟩) ?_
  have : f[c.length + f.length]? = none := by rw [List.getElem?_eq_none_iff]; omega
  rw [this]
  exact ⟨trivial, fun k hk => hk.elim⟩
/-- three blocks to begin with -/
theorem Reg.three {X Y Z : Nat} {o p q : Obj} (hb : Below V.heap.size V w) (hX : w.heap[X]? = some o) (hY : w.heap[Y]? = some p) (hZ : w.heap[Z]? = some q) (h1 : V.heap.size ≤ X) (h2 : V.heap.size ≤ Y) (h3 : V.heap.size ≤ Z) (n1 : X ≠ Y) (n2 : X ≠ Z) (n3 : Y ≠ Z)
    (e0 : f[0]?.getD nilFa = blkFa X o) (e1 : f[1]?.getD nilFa = blkFa Y p) (e2 : f[2]?.getD nilFa = blkFa Z q) (hc : ∀ i : Nat, 3 ≤ i → c[i]?.getD false = false) : Reg V c f w := by
  have lX := (Array.getElem?_eq_some_iff.1 hX).1
  have lY := (Array.getElem?_eq_some_iff.1 hY).1
  have lZ := (Array.getElem?_eq_some_iff.1 hZ).1
  refine ⟨hb, fun i h => ?_, fun i j hij hi hj k hF hG => ?_⟩
  · have hi : i < 3 := by
      by_cases h' : i < 3
      · exact h'
      · rw [hc i (by omega)] at h; cases h
    have : i = 0 ∨ i = 1 ∨ i = 2 := by omega
    rcases this with rfl | rfl | rfl
    · rw [e0]; exact ⟨hX, fun k hk => by cases hk; exact ⟨h1, lX⟩⟩
    · rw [e1]; exact ⟨hY, fun k hk => by cases hk; exact ⟨h2, lY⟩⟩
    · rw [e2]; exact ⟨hZ, fun k hk => by cases hk; exact ⟨h3, lZ⟩⟩
  · have h3' : ∀ i : Nat, c[i]?.getD false = true → i = 0 ∨ i = 1 ∨ i = 2 := fun i h => by
      by_cases h' : i < 3
      · omega
      · rw [hc i (by omega)] at h; cases h
    rcases h3' i hi with rfl | rfl | rfl <;> rcases h3' j hj with rfl | rfl | rfl <;> first | exact hij rfl | skip
    all_goals
      simp only [e0, e1, e2] at hF hG
      cases hF
      first | exact n1 hG | exact n2 hG | exact n3 hG | exact n1 hG.symm | exact n2 hG.symm | exact n3 hG.symm
/-- a new block -/
theorem Reg.new (h : Reg V c f w) (new : Nat) {o : Obj} (hf : f'[new]?.getD nilFa = blkFa w.heap.size o) (hk : Kept c c' f f' new) : Reg V c' f' (w.alloc o) := by
  refine h.call new ((Below.refl _ _).alloc (Nat.le_refl _) _) ?_ hk
  rw [hf]
  exact ⟨World.alloc_heap_new w o, fun k hk => by cases hk; exact ⟨by simp, Nat.le_refl _⟩⟩
/-- an append -/
theorem Reg.app (h : Reg V c f w) (src new : Nat) {base : Nat} {e : TypeId} {size n : Nat} {v v' : Value} {xs : List Value} (hc : c[src]?.getD false = true) (hs : f[src]?.getD nilFa = ownFa base e size v n xs) (hg : w.grownBy w' v.ownBlock) {m : Nat} {ys : List Value}
    (hf : f'[new]?.getD nilFa = ownFa base e size v' m ys) (hown : w'.ownsRow base e size v' m ys) (ho : v'.ownBlock = v.ownBlock ∨ v'.ownBlock = some w.heap.size) (hk : KeptBut c c' f f' src new) : Reg V c' f' w' := by
  refine h.step (Chg.own hg) src new (fun k hk => ⟨hc, by rw [hs]; exact hk⟩) hk ?_
  rw [hf, hs]
  refine ⟨hown, fun k hF => ⟨own_lt_ hown k hF, ?_⟩⟩
  rcases ho with h1 | h1
  · exact .inr ⟨hc, h1.symm.trans hF⟩
  · left
    have hF' : v'.ownBlock = some k := hF
    rw [h1] at hF'
    cases hF'
    exact Nat.le_refl _
/-- a block is turned -/
theorem Reg.turn (h : Reg V c f w) (src new : Nat) {X : Nat} {o o' : Obj} (hc : c[src]?.getD false = true) (hs : f[src]?.getD nilFa = blkFa X o) (hg : Chg w w' (fun k => k = X)) (hf : f'[new]?.getD nilFa = blkFa X o') (ho : w'.heap[X]? = some o') (hk : KeptBut c c' f f' src new) : Reg V c' f' w' := by
  refine h.step hg src new (fun k hk => ⟨hc, by rw [hs]; exact hk⟩) hk ?_
  rw [hf, hs]
  refine ⟨ho, fun k hF => ⟨?_, .inr ⟨hc, hF⟩⟩⟩
  cases hF
  exact (Array.getElem?_eq_some_iff.1 ho).1
end
/-! ### ends -/
theorem chg_set1 (w : World) (X i : Nat) (a : Value) : Chg w (w.setCell ⟨X, i, none⟩ a) (fun k => k = X) :=
  ⟨rfl, rfl, rfl, by simp [World.setCell], fun k _ hk => heap_set_ne hk _ _⟩
theorem below_none {w w' : World} (h : w.grownBy w' none) : Below w.heap.size w w' := ⟨h.os, h.tape, h.output, h.size, fun k hk => h.block k hk (fun e => by cases e)⟩
/-! ### four cells laid into a block -/
def set4 (w : World) (X : Nat) (a b c d : Value) : World := (((w.setCell ⟨X, 0, none⟩ a).setCell ⟨X, 1, none⟩ b).setCell ⟨X, 2, none⟩ c).setCell ⟨X, 3, none⟩ d
theorem set4_self {w : World} {X : Nat} {T : TypeId} {p q r s : Value} (h : w.heap[X]? = some (.cells #[p, q, r, s] T (0, 0))) (a b c d : Value) : (set4 w X a b c d).heap[X]? = some (.cells #[a, b, c, d] T (0, 0)) := by
  unfold set4
  rw [heap_set_self (heap_set_self (heap_set_self (heap_set_self h 0 _) 1 _) 2 _) 3 _]; rfl
theorem chg_set4 (w : World) (X : Nat) (a b c d : Value) : Chg w (set4 w X a b c d) (fun k => k = X) := by
  refine ⟨rfl, rfl, rfl, by simp [set4, World.setCell], fun k _ hk => ?_⟩
  unfold set4
  rw [heap_set_ne hk, heap_set_ne hk, heap_set_ne hk, heap_set_ne hk]
theorem cells4 {V : World} {b : Nat} {T : TypeId} {p q r s : Value} (h : V.heap[b]? = some (.cells #[p, q, r, s] T (0, 0))) : V.cell? ⟨b, 0, none⟩ = some p ∧ V.cell? ⟨b, 1, none⟩ = some q ∧ V.cell? ⟨b, 2, none⟩ = some r ∧ V.cell? ⟨b, 3, none⟩ = some s ∧ ∀ i, V.frozen? ⟨b, i, none⟩ = false :=
  ⟨by simp [World.cell?, h], by simp [World.cell?, h], by simp [World.cell?, h], by simp [World.cell?, h], fun i => by simp [World.frozen?, h]⟩
theorem own_size_ {w : World} {base : Nat} {e : TypeId} {size n m : Nat} {v : Value} {xs ys : List Value} (hm : m = n) (hy : ys = xs) (h : w.ownsRow base e size v n xs) : w.ownsRow base e size v m ys := by subst hm; subst hy; exact h
theorem own_slice {w : World} {base : Nat} {e : TypeId} {size n : Nat} {v : Value} {xs : List Value} (h : w.ownsRow base e size v n xs) : ∃ A c, v = .slice A n c := by
  rcases h.2 with ⟨rfl, h0⟩ | ⟨g, cap, cur, rfl, _⟩
  · exact ⟨none, 0, by rw [h0]⟩
  · exact ⟨_, _, rfl⟩
/-- a row's cells at a block's beginning -/
theorem row_blk {w : World} {X : Nat} {cs : List Value} {T : TypeId} (h : w.heap[X]? = some (.cells cs.toArray T (0, 0))) : RowI w (some ⟨X, 0, none⟩) cs := by
  refine .inr ⟨_, rfl, fun j u hj => ?_⟩
  rw [add_plain]
  simp only [World.cell?, h]
  simpa using hj
/-- an end that lies in a variable -/
def EndAt (V : World) (X : Nat) (pe : PEnd) : Prop := ∃ A c, V.heap[X]? = some (.cells #[.int .i64 pe.kind, .int .i64 pe.n, .slice A pe.out.length c, .int .i64 pe.steps] 35 (0, 0)) ∧ IntsIn V.heap.size V A pe.out
theorem endAt_cells {V : World} {X : Nat} {pe : PEnd} (h : EndAt V X pe) : ∃ A c, V.cell? ⟨X, 0, none⟩ = some (.int .i64 pe.kind) ∧ V.cell? ⟨X, 1, none⟩ = some (.int .i64 pe.n) ∧ V.cell? ⟨X, 2, none⟩ = some (.slice A pe.out.length c) ∧ V.cell? ⟨X, 3, none⟩ = some (.int .i64 pe.steps) ∧ IntsIn V.heap.size V A pe.out := by
  obtain ⟨A, c, h9, hi⟩ := h
  exact ⟨A, c, by simp [World.cell?, h9], by simp [World.cell?, h9], by simp [World.cell?, h9], by simp [World.cell?, h9], hi⟩
theorem putSel_skipY {b : Nat → Bool} {i : Nat} : ∀ {l : List (Nat × Tmp × Value)} {a : Act}, (l.all fun e => !(e.1 == i)) = true → putSel a (up b i) l = putSel a b l
  | [], a, _ => rfl
  | e :: l, a, h => by
    rw [List.all_cons, Bool.and_eq_true] at h
    have he : e.1 ≠ i := by simpa using h.1
    unfold putSel
    rw [up_ne he]
    exact putSel_skipY h.2
/-! ### a region whose turns follow one another -/
/-- what is not listed may be told anew -/
theorem putSel_alt {b : Nat → Bool} {i : Nat} {t : Tmp} {v0 v : Value} : ∀ {L L' : List (Nat × Tmp × Value)} {a : Act} (k : Nat), L[k]? = some (i, t, v0) → L.set k (i, t, v) = L' → b i = false → putSel a b L = putSel a b L'
  | [], _, _, k, h, _, _ => by simp at h
  | x :: r, L', a, 0, h, h2, hb => by
    simp only [List.getElem?_cons_zero, Option.some.injEq] at h
    subst h
    subst h2
    simp only [List.set_cons_zero, putSel, hb, Bool.false_eq_true, if_false]
  | x :: r, L', a, k + 1, h, h2, hb => by
    subst h2
    simp only [List.set_cons_succ, putSel]
    exact putSel_alt k (by simpa using h) rfl hb
end Go.Proofs.Ytnobggabjpcbfaa

/-
  Flat programs that a law puts together: rows of functions.
-/
set_option linter.unusedVariables false
set_option linter.unusedSimpArgs false
namespace Go.Proofs.Ytnobggabjpcbfaa
open Go.RowKit

/-- functions' cells in a row -/
def FunsRow (B : Nat) (w : World) (L : List FFun) (news : List Value) : Prop :=
  news.length = L.length * 5 ∧ ∀ j (h : j < L.length), ∃ g0 g1 g2, news[j * 5]? = some (.int .i64 L[j].env) ∧ news[j * 5 + 1]? = some (.int .i64 L[j].param) ∧ news[j * 5 + 2]? = some g0 ∧ news[j * 5 + 3]? = some g1 ∧ news[j * 5 + 4]? = some g2 ∧ BodyIn B w L[j].body #[g0, g1, g2]
theorem FunsRow.kept {B : Nat} {w w' : World} {L : List FFun} {news : List Value} (hb : Below B w w') (h : FunsRow B w L news) : FunsRow B w' L news :=
  ⟨h.1, fun j hj => by obtain ⟨g0, g1, g2, e0, e1, e2, e3, e4, e5⟩ := h.2 j hj; exact ⟨g0, g1, g2, e0, e1, e2, e3, e4, e5.kept hb⟩⟩
theorem FunsRow.mono {B B' : Nat} {w : World} {L : List FFun} {news : List Value} (hB : B ≤ B') (h : FunsRow B w L news) : FunsRow B' w L news :=
  ⟨h.1, fun j hj => by obtain ⟨g0, g1, g2, e0, e1, e2, e3, e4, e5⟩ := h.2 j hj; exact ⟨g0, g1, g2, e0, e1, e2, e3, e4, e5.mono hB⟩⟩
theorem FunsRow.nil {B : Nat} {w : World} : FunsRow B w [] [] := ⟨rfl, fun j h => absurd h (Nat.not_lt_zero _)⟩
theorem FunsRow.snoc {B : Nat} {w : World} {L : List FFun} {news : List Value} (h : FunsRow B w L news) {g : FFun} {g0 g1 g2 : Value} (hg : BodyIn B w g.body #[g0, g1, g2]) : FunsRow B w (L ++ [g]) (news ++ [.int .i64 g.env, .int .i64 g.param, g0, g1, g2]) := by
  obtain ⟨h1, h2⟩ := h
  refine ⟨by simp [h1]; omega, fun j hj => ?_⟩
  by_cases hjl : j < L.length
  · obtain ⟨a, b, c, e0, e1, e2, e3, e4, e5⟩ := h2 j hjl
    rw [List.getElem_append_left hjl]
    exact ⟨a, b, c, by rw [List.getElem?_append_left (by omega)]; exact e0, by rw [List.getElem?_append_left (by omega)]; exact e1, by rw [List.getElem?_append_left (by omega)]; exact e2, by rw [List.getElem?_append_left (by omega)]; exact e3, by rw [List.getElem?_append_left (by omega)]; exact e4, e5⟩
  · have : j = L.length := by simp at hj; omega
    subst this
    rw [List.getElem_append_right (Nat.le_refl _)]
    simp only [Nat.sub_self, List.getElem_cons_zero]
    have e : ∀ k, (news ++ [.int .i64 g.env, .int .i64 g.param, g0, g1, g2])[L.length * 5 + k]? = ([.int .i64 g.env, .int .i64 g.param, g0, g1, g2] : List Value)[k]? := fun k => by
      rw [List.getElem?_append_right (by omega), h1]
      congr 1
      omega
    exact ⟨g0, g1, g2, e 0, e 1, e 2, e 3, e 4, hg⟩
/-- the functions of a program that lies in memory -/
theorem funs_news {B : Nat} {w : World} {L : List FFun} {Af : Option Addr} {b o : Nat} (hA : 0 < L.length → Af = some ⟨b, o, none⟩ ∧ b < B)
    (hfun : ∀ j (h : j < L.length), ∃ g0 g1 g2, w.cell? ⟨b, o + j * 5, none⟩ = some (.int .i64 L[j].env) ∧ w.cell? ⟨b, o + j * 5 + 1, none⟩ = some (.int .i64 L[j].param) ∧ w.cell? ⟨b, o + j * 5 + 2, none⟩ = some g0 ∧ w.cell? ⟨b, o + j * 5 + 3, none⟩ = some g1 ∧ w.cell? ⟨b, o + j * 5 + 4, none⟩ = some g2 ∧ BodyIn B w L[j].body #[g0, g1, g2]) :
    ∃ news, FunsRow B w L news ∧ (∀ u ∈ news, u.oneCell' = true) ∧ ∀ V, Below B w V → RowI V Af news := by
  have each : ∀ j : Nat, ∃ g : Value × Value × Value, ∀ h : j < L.length, w.cell? ⟨b, o + j * 5, none⟩ = some (.int .i64 L[j].env) ∧ w.cell? ⟨b, o + j * 5 + 1, none⟩ = some (.int .i64 L[j].param) ∧ w.cell? ⟨b, o + j * 5 + 2, none⟩ = some g.1 ∧ w.cell? ⟨b, o + j * 5 + 3, none⟩ = some g.2.1 ∧ w.cell? ⟨b, o + j * 5 + 4, none⟩ = some g.2.2 ∧ BodyIn B w L[j].body #[g.1, g.2.1, g.2.2] := fun j => by
    by_cases hj : j < L.length
    · obtain ⟨g0, g1, g2, e⟩ := hfun j hj
      exact ⟨(g0, g1, g2), fun _ => e⟩
    · exact ⟨(.bool false, .bool false, .bool false), fun h => absurd h hj⟩
  obtain ⟨G, hG⟩ := Classical.axiomOfChoice each
  have main : ∀ n, n ≤ L.length → ∃ news, FunsRow B w (L.take n) news ∧ (∀ u ∈ news, u.oneCell' = true) ∧ ∀ j u, news[j]? = some u → w.cell? ⟨b, o + j, none⟩ = some u := by
    intro n
    induction n with
    | zero => exact fun _ => ⟨[], by simpa using FunsRow.nil, by simp, by simp⟩
    | succ n ih =>
      intro hn
      obtain ⟨news, h1, h2, h3⟩ := ih (by omega)
      obtain ⟨e0, e1, e2, e3, e4, e5⟩ := hG n (by omega)
      have hl := h1.1
      rw [List.length_take, Nat.min_eq_left (by omega)] at hl
      obtain ⟨A0, c0, b0, o0, hv, -⟩ := e5.at_
      simp only [Array.mk.injEq, List.cons.injEq, and_true] at hv
      refine ⟨news ++ [.int .i64 L[n].env, .int .i64 L[n].param, (G n).1, (G n).2.1, (G n).2.2], ?_, ?_, fun j u hj => ?_⟩
      · have := h1.snoc (g := L[n]) e5
        rwa [List.take_append_getElem (by omega)] at this
      · intro u hu
        rcases List.mem_append.1 hu with hu | hu
        · exact h2 u hu
        · simp only [List.mem_cons, List.not_mem_nil, or_false] at hu
          rcases hu with rfl | rfl | rfl | rfl | rfl
          · rfl
          · rfl
          · rw [hv.1]; rfl
          · rw [hv.2.1]; rfl
          · rw [hv.2.2]; rfl
      · by_cases hjl : j < news.length
        · rw [List.getElem?_append_left hjl] at hj
          exact h3 j u hj
        · rw [List.getElem?_append_right (by omega), hl] at hj
          have hlt := (List.getElem?_eq_some_iff.1 hj).1
          simp only [List.length_cons, List.length_nil] at hlt
          obtain ⟨k, hk, rfl⟩ : ∃ k, k < 5 ∧ j = n * 5 + k := ⟨j - n * 5, by omega, by omega⟩
          rw [Nat.add_sub_cancel_left] at hj
          rw [← Nat.add_assoc]
          have : k = 0 ∨ k = 1 ∨ k = 2 ∨ k = 3 ∨ k = 4 := by omega
          rcases this with rfl | rfl | rfl | rfl | rfl <;> simp only [List.getElem?_cons_zero, List.getElem?_cons_succ, Option.some.injEq] at hj <;> subst hj
          · exact e0
          · exact e1
          · exact e2
          · exact e3
          · exact e4
  obtain ⟨news, h1, h2, h3⟩ := main L.length (Nat.le_refl _)
  rw [List.take_length] at h1
  refine ⟨news, h1, h2, fun V hV => ?_⟩
  by_cases h0 : L.length = 0
  · have hn : news = [] := List.length_eq_zero_iff.1 (by rw [h1.1, h0])
    subst hn
    rcases Af with _ | ad
    · exact .inl ⟨rfl, rfl⟩
    · exact .inr ⟨ad, rfl, by simp⟩
  · obtain ⟨rfl, hlt⟩ := hA (by omega)
    refine .inr ⟨_, rfl, fun j u hj => ?_⟩
    rw [add_plain]
    exact (hV.cell (p := ⟨_, _, none⟩) hlt).trans (h3 j u hj)
theorem infoFun : (Try.prog.info? 42).map (fun i => (i.zero, i.size, i.bytes)) = some (some (.agg #[.int .i64 0, .int .i64 0, .slice none 0 0, .bool false, .int .i64 0]), 5, 56) := by kernel_rfl
/-- a program whose functions' row has been filled -/
theorem flat_of_row {base : Nat} {w : World} {L : List FFun} {news : List Value} {v m0 m1 m2 : Value} {main : Anf} (hown : w.ownsRow base 42 5 v L.length news) (hrow : FunsRow w.heap.size w L news) (hm : BodyIn w.heap.size w main #[m0, m1, m2]) (hl : L.length * 56 ≤ 140737488351232) :
    ∃ A c, v = .slice A L.length c ∧ FlatIn w.heap.size w ⟨L, main⟩ #[.slice A L.length c, m0, m1, m2] := by
  rcases hown.2 with ⟨rfl, h0⟩ | ⟨g, cap, cur, rfl, _, _, hnc, _⟩
  · refine ⟨none, 0, by rw [h0], none, 0, 0, 0, m0, m1, m2, rfl, by simp [h0], hl, hm, fun h => absurd h (by simp [h0]), fun j hj => absurd hj (by simp [h0])⟩
  · refine ⟨_, cap, rfl, _, cap, g, 0, m0, m1, m2, rfl, hnc, hl, hm, fun _ => ⟨rfl, (hown.lt g rfl).2⟩, fun j hj => ?_⟩
    obtain ⟨g0, g1, g2, e0, e1, e2, e3, e4, e5⟩ := hrow.2 j hj
    have hc : ∀ k u, news[k]? = some u → w.cell? ⟨g, 0 + k, none⟩ = some u := fun k u hk => by
      have := World.ownsRow.cells hown (g := g) rfl k u hk
      rwa [add_plain] at this
    exact ⟨g0, g1, g2, hc _ _ e0, by rw [Nat.add_assoc]; exact hc _ _ e1, by rw [Nat.add_assoc]; exact hc _ _ e2, by rw [Nat.add_assoc]; exact hc _ _ e3, by rw [Nat.add_assoc]; exact hc _ _ e4, e5⟩
end Go.Proofs.Ytnobggabjpcbfaa
