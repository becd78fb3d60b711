/-
  1 texts of this seat in one: VN.
-/
import Derived.Test.YtnolhcdfknjncaaDoorQP
import Derived.Test.YtnolhcdfknjncaaDoorWInvWords
/-
  CevalRuns: two runs whose ends are laid into two variables, in whatever order.
-/
set_option linter.unusedVariables false
set_option linter.unusedSimpArgs false
namespace Go.Proofs.YtnolhcdfknjncaaDoor
open Go.RowKit Go.Proofs.YtnolhcdfknjncaaDoorW.PrintLast

/-- an end that is not filled yet -/
def Zero (V : World) (b : Nat) : Prop := V.heap[b]? = some (.cells #[.int .i64 0, .int .i64 0, .slice none 0 0, .int .i64 0] 31 (0, 0))
theorem Zero.lt {V : World} {b : Nat} (h : Zero V b) : b < V.heap.size := (Array.getElem?_eq_some_iff.1 h).1
theorem Zero.new (V : World) : Zero (V.alloc (.cells #[.int .i64 0, .int .i64 0, .slice none 0 0, .int .i64 0] 31)) V.heap.size := World.alloc_heap_new V _
theorem Zero.below {V V2 : World} {b : Nat} (h : Zero V b) (hb : Below V.heap.size V V2) : Zero V2 b := (hb.block b h.lt).trans h
theorem Zero.cells {V : World} {b : Nat} (h : Zero V b) : V.cell? ⟨b, 0, none⟩ = some (.int .i64 0) ∧ V.cell? ⟨b, 1, none⟩ = some (.int .i64 0) ∧ V.cell? ⟨b, 2, none⟩ = some (.slice none 0 0) ∧ V.cell? ⟨b, 3, none⟩ = some (.int .i64 0) ∧ ∀ i, V.frozen? ⟨b, i, none⟩ = false := by
  unfold Zero at h
  exact ⟨by simp [World.cell?, h], by simp [World.cell?, h], by simp [World.cell?, h], by simp [World.cell?, h], fun i => by simp [World.frozen?, h]⟩
/-- what an end's list lies in is not a block -/
def Off (A : Option Addr) (ks : List Int) (X : Nat) : Prop := ks = [] ∨ ∀ a, A = some a → a.block ≠ X
def endC (pe : PEnd) (A : Option Addr) (c : Nat) : Obj := .cells #[.int .i64 pe.kind, .int .i64 pe.n, .slice A pe.out.length c, .int .i64 pe.steps] 31 (0, 0)
theorem off_new {B : Nat} {w : World} {A : Option Addr} {ks : List Int} (h : IntsIn B w A ks) {X : Nat} (hX : B ≤ X) : Off A ks X := by
  rcases h.2 with h0 | ⟨b, o, rfl, hb, _⟩
  · exact .inl h0
  · exact .inr (fun a ha => by cases ha; show b ≠ X; omega)
theorem ints_set {B : Nat} {w : World} {A : Option Addr} {ks : List Int} {X : Nat} (h : IntsIn B w A ks) (hX : Off A ks X) (i : Nat) (x : Value) : IntsIn B (w.setCell ⟨X, i, none⟩ x) A ks := by
  refine ⟨h.1, ?_⟩
  rcases h.2 with h0 | ⟨b, o, rfl, hb, hc⟩
  · exact .inl h0
  · rcases hX with h0 | hX
    · exact .inl h0
    · have hne : b ≠ X := hX _ rfl
      exact .inr ⟨b, o, rfl, hb, fun j hj => (cell_of_heap (heap_set_ne hne _ _) _).trans (hc j hj)⟩
def setE (w : World) (X : Nat) (pe : PEnd) (A : Option Addr) (c : Nat) : World :=
  (((w.setCell ⟨X, 0, none⟩ (.int .i64 pe.kind)).setCell ⟨X, 1, none⟩ (.int .i64 pe.n)).setCell ⟨X, 2, none⟩ (.slice A pe.out.length c)).setCell ⟨X, 3, none⟩ (.int .i64 pe.steps)
theorem setE_self {w : World} {X : Nat} (h : Zero w X) (pe : PEnd) (A : Option Addr) (c : Nat) : (setE w X pe A c).heap[X]? = some (endC pe A c) := by
  unfold setE
  rw [heap_set_self (heap_set_self (heap_set_self (heap_set_self h 0 _) 1 _) 2 _) 3 _]; rfl
theorem setE_ne {w : World} {X k : Nat} (h : k ≠ X) (pe : PEnd) (A : Option Addr) (c : Nat) : (setE w X pe A c).heap[k]? = w.heap[k]? := by
  unfold setE
  rw [heap_set_ne h, heap_set_ne h, heap_set_ne h, heap_set_ne h]
theorem setE_size (w : World) (X : Nat) (pe : PEnd) (A : Option Addr) (c : Nat) : (setE w X pe A c).heap.size = w.heap.size := by
  simp [setE, World.setCell]
theorem ints_setE {B : Nat} {w : World} {A : Option Addr} {ks : List Int} {X : Nat} (h : IntsIn B w A ks) (hX : Off A ks X) (pe : PEnd) (A' : Option Addr) (c : Nat) : IntsIn B (setE w X pe A' c) A ks :=
  ints_set (ints_set (ints_set (ints_set h hX _ _) hX _ _) hX _ _) hX _ _

/-- what holds while the two runs go and their ends are laid -/
structure TwoS (V : World) (pb pc : PEnd) (b : Nat → Bool) (A1 A2 : Option Addr) (c1 c2 X Y : Nat) (w : World) : Prop where
  bel : Below V.heap.size V w
  r1 : b 4 = true → IntsIn w.heap.size w A1 pb.out
  r2 : b 9 = true → IntsIn w.heap.size w A2 pc.out
  x1 : b 10 = true → V.heap.size ≤ X ∧ X < w.heap.size ∧ (b 12 = false → Zero w X)
  x2 : b 11 = true → V.heap.size ≤ Y ∧ Y < w.heap.size ∧ (b 13 = false → Zero w Y)
  ne : b 10 = true → b 11 = true → X ≠ Y
  n11 : b 4 = true → b 10 = true → Off A1 pb.out X
  n12 : b 4 = true → b 11 = true → Off A1 pb.out Y
  n21 : b 9 = true → b 10 = true → Off A2 pc.out X
  n22 : b 9 = true → b 11 = true → Off A2 pc.out Y
  s1 : b 12 = true → X < w.heap.size ∧ w.heap[X]? = some (endC pb A1 c1)
  s2 : b 13 = true → Y < w.heap.size ∧ w.heap[Y]? = some (endC pc A2 c2)
theorem TwoS.start {V w : World} {pb pc : PEnd} (hb : Below V.heap.size V w) : TwoS V pb pc (fun _ => false) none none 0 0 0 0 w :=
  ⟨hb, fun h => Bool.noConfusion h, fun h => Bool.noConfusion h, fun h => Bool.noConfusion h, fun h => Bool.noConfusion h, fun h => Bool.noConfusion h, fun h => Bool.noConfusion h, fun h => Bool.noConfusion h, fun h => Bool.noConfusion h, fun h => Bool.noConfusion h, fun h => Bool.noConfusion h, fun h => Bool.noConfusion h⟩
section
variable {V w w' : World} {pb pc : PEnd} {b : Nat → Bool} {A1 A2 : Option Addr} {c1 c2 X Y : Nat}
theorem up_at {b : Nat → Bool} {i j : Nat} (h : j ≠ i) (hj : up b i j = true) : b j = true := by rwa [up_ne h] at hj
/-- an operation that leaves the world -/
theorem TwoS.pass (h : TwoS V pb pc b A1 A2 c1 c2 X Y w) {i : Nat} (hi : i = 0 ∨ i = 1 ∨ i = 2 ∨ i = 3 ∨ i = 5 ∨ i = 6 ∨ i = 7 ∨ i = 8) : TwoS V pb pc (up b i) A1 A2 c1 c2 X Y w := by
  have e : ∀ j, j = 4 ∨ j = 9 ∨ j = 10 ∨ j = 11 ∨ j = 12 ∨ j = 13 → up b i j = b j := fun j hj => up_ne (by omega)
  have e2 := e 4 (by omega)
  have e5 := e 9 (by omega)
  have e6 := e 10 (by omega)
  have e7 := e 11 (by omega)
  have e8 := e 12 (by omega)
  have e9 := e 13 (by omega)
  exact ⟨h.bel, e2 ▸ h.r1, e5 ▸ h.r2, e6 ▸ e8 ▸ h.x1, e7 ▸ e9 ▸ h.x2, e6 ▸ e7 ▸ h.ne, e2 ▸ e6 ▸ h.n11, e2 ▸ e7 ▸ h.n12, e5 ▸ e6 ▸ h.n21, e5 ▸ e7 ▸ h.n22, e8 ▸ h.s1, e9 ▸ h.s2⟩
theorem off_run {A : Option Addr} {ks : List Int} {X n : Nat} (hlo : ∀ a, A = some a → n ≤ a.block) (hX : X < n) : Off A ks X := .inr (fun a ha => by have := hlo a ha; omega)
/-- the first run -/
theorem TwoS.run1 (h : TwoS V pb pc b A1 A2 c1 c2 X Y w) (h8 : b 12 = false) (hb : Below w.heap.size w w') {A : Option Addr} {c : Nat} (hi : IntsIn w'.heap.size w' A pb.out) (hlo : ∀ a, A = some a → w.heap.size ≤ a.block) : TwoS V pb pc (up b 4) A A2 c c2 X Y w' := by
  have hs := hb.size
  refine ⟨h.bel.trans (hb.mono h.bel.size), fun _ => hi, fun k => ((h.r2 (up_at (by decide) k)).below hb).mono hs, fun k => ?_, fun k => ?_, fun k l => h.ne (up_at (by decide) k) (up_at (by decide) l), fun _ k => off_run hlo (h.x1 (up_at (by decide) k)).2.1, fun _ k => off_run hlo (h.x2 (up_at (by decide) k)).2.1,
    fun k l => h.n21 (up_at (by decide) k) (up_at (by decide) l), fun k l => h.n22 (up_at (by decide) k) (up_at (by decide) l), fun k => ?_, fun k => ?_⟩
  · obtain ⟨g1, g2, g3⟩ := h.x1 (up_at (by decide) k)
    exact ⟨g1, by omega, fun l => (g3 (by rwa [up_ne (by decide)] at l)).below hb⟩
  · obtain ⟨g1, g2, g3⟩ := h.x2 (up_at (by decide) k)
    exact ⟨g1, by omega, fun l => (g3 (by rwa [up_ne (by decide)] at l)).below hb⟩
  · rw [up_ne (by decide), h8] at k; cases k
  · obtain ⟨g1, g2⟩ := h.s2 (up_at (by decide) k)
    exact ⟨by omega, (hb.block Y g1).trans g2⟩
/-- the second run -/
theorem TwoS.run2 (h : TwoS V pb pc b A1 A2 c1 c2 X Y w) (h9 : b 13 = false) (hb : Below w.heap.size w w') {A : Option Addr} {c : Nat} (hi : IntsIn w'.heap.size w' A pc.out) (hlo : ∀ a, A = some a → w.heap.size ≤ a.block) : TwoS V pb pc (up b 9) A1 A c1 c X Y w' := by
  have hs := hb.size
  refine ⟨h.bel.trans (hb.mono h.bel.size), fun k => ((h.r1 (up_at (by decide) k)).below hb).mono hs, fun _ => hi, fun k => ?_, fun k => ?_, fun k l => h.ne (up_at (by decide) k) (up_at (by decide) l),
    fun k l => h.n11 (up_at (by decide) k) (up_at (by decide) l), fun k l => h.n12 (up_at (by decide) k) (up_at (by decide) l), fun _ k => off_run hlo (h.x1 (up_at (by decide) k)).2.1, fun _ k => off_run hlo (h.x2 (up_at (by decide) k)).2.1, fun k => ?_, fun k => ?_⟩
  · obtain ⟨g1, g2, g3⟩ := h.x1 (up_at (by decide) k)
    exact ⟨g1, by omega, fun l => (g3 (by rwa [up_ne (by decide)] at l)).below hb⟩
  · obtain ⟨g1, g2, g3⟩ := h.x2 (up_at (by decide) k)
    exact ⟨g1, by omega, fun l => (g3 (by rwa [up_ne (by decide)] at l)).below hb⟩
  · obtain ⟨g1, g2⟩ := h.s1 (up_at (by decide) k)
    exact ⟨by omega, (hb.block X g1).trans g2⟩
  · rw [up_ne (by decide), h9] at k; cases k
/-- the first place -/
theorem TwoS.new1 (h : TwoS V pb pc b A1 A2 c1 c2 X Y w) (h8 : b 12 = false) : TwoS V pb pc (up b 10) A1 A2 c1 c2 w.heap.size Y (w.alloc (.cells #[.int .i64 0, .int .i64 0, .slice none 0 0, .int .i64 0] 31)) := by
  have hb : Below w.heap.size w (w.alloc (.cells #[.int .i64 0, .int .i64 0, .slice none 0 0, .int .i64 0] 31)) := (Below.refl _ _).alloc (Nat.le_refl _) _
  have hs : (w.alloc (.cells #[.int .i64 0, .int .i64 0, .slice none 0 0, .int .i64 0] 31)).heap.size = w.heap.size + 1 := World.size_alloc _ _
  refine ⟨h.bel.trans (hb.mono h.bel.size), fun k => ((h.r1 (up_at (by decide) k)).below hb).mono (by omega), fun k => ((h.r2 (up_at (by decide) k)).below hb).mono (by omega), fun k => ⟨h.bel.size, by omega, fun _ => Zero.new w⟩, fun k => ?_,
    fun _ k => by have := (h.x2 (up_at (by decide) k)).2.1; omega, fun k _ => off_new (h.r1 (up_at (by decide) k)) (Nat.le_refl _), fun k l => h.n12 (up_at (by decide) k) (up_at (by decide) l), fun k _ => off_new (h.r2 (up_at (by decide) k)) (Nat.le_refl _), fun k l => h.n22 (up_at (by decide) k) (up_at (by decide) l), fun k => ?_, fun k => ?_⟩
  · obtain ⟨g1, g2, g3⟩ := h.x2 (up_at (by decide) k)
    exact ⟨g1, by omega, fun l => (g3 (by rwa [up_ne (by decide)] at l)).below hb⟩
  · rw [up_ne (by decide), h8] at k; cases k
  · obtain ⟨g1, g2⟩ := h.s2 (up_at (by decide) k)
    exact ⟨by omega, (hb.block Y g1).trans g2⟩
/-- the second place -/
theorem TwoS.new2 (h : TwoS V pb pc b A1 A2 c1 c2 X Y w) (h9 : b 13 = false) : TwoS V pb pc (up b 11) A1 A2 c1 c2 X w.heap.size (w.alloc (.cells #[.int .i64 0, .int .i64 0, .slice none 0 0, .int .i64 0] 31)) := by
  have hb : Below w.heap.size w (w.alloc (.cells #[.int .i64 0, .int .i64 0, .slice none 0 0, .int .i64 0] 31)) := (Below.refl _ _).alloc (Nat.le_refl _) _
  have hs : (w.alloc (.cells #[.int .i64 0, .int .i64 0, .slice none 0 0, .int .i64 0] 31)).heap.size = w.heap.size + 1 := World.size_alloc _ _
  refine ⟨h.bel.trans (hb.mono h.bel.size), fun k => ((h.r1 (up_at (by decide) k)).below hb).mono (by omega), fun k => ((h.r2 (up_at (by decide) k)).below hb).mono (by omega), fun k => ?_, fun k => ⟨h.bel.size, by omega, fun _ => Zero.new w⟩,
    fun k _ => by have := (h.x1 (up_at (by decide) k)).2.1; omega, fun k l => h.n11 (up_at (by decide) k) (up_at (by decide) l), fun k _ => off_new (h.r1 (up_at (by decide) k)) (Nat.le_refl _), fun k l => h.n21 (up_at (by decide) k) (up_at (by decide) l), fun k _ => off_new (h.r2 (up_at (by decide) k)) (Nat.le_refl _), fun k => ?_, fun k => ?_⟩
  · obtain ⟨g1, g2, g3⟩ := h.x1 (up_at (by decide) k)
    exact ⟨g1, by omega, fun l => (g3 (by rwa [up_ne (by decide)] at l)).below hb⟩
  · obtain ⟨g1, g2⟩ := h.s1 (up_at (by decide) k)
    exact ⟨by omega, (hb.block X g1).trans g2⟩
  · rw [up_ne (by decide), h9] at k; cases k
theorem bel_setE (h : Below V.heap.size V w) {X : Nat} (hX : V.heap.size ≤ X) (pe : PEnd) (A : Option Addr) (c : Nat) : Below V.heap.size V (setE w X pe A c) :=
  (((h.setCell (p := ⟨X, 0, none⟩) hX _).setCell (p := ⟨X, 1, none⟩) hX _).setCell (p := ⟨X, 2, none⟩) hX _).setCell (p := ⟨X, 3, none⟩) hX _
/-- the first end is laid -/
theorem TwoS.lay1 (h : TwoS V pb pc b A1 A2 c1 c2 X Y w) (h2 : b 4 = true) (h6 : b 10 = true) (h7 : b 11 = true) (h8 : b 12 = false) (h9 : b 13 = false) : TwoS V pb pc (up b 12) A1 A2 c1 c2 X Y (setE w X pb A1 c1) := by
  obtain ⟨g1, g2, g3⟩ := h.x1 h6
  have hs := setE_size w X pb A1 c1
  have hne := h.ne h6 h7
  refine ⟨bel_setE h.bel g1 _ _ _, fun k => hs ▸ ints_setE (h.r1 h2) (h.n11 h2 h6) _ _ _, fun k => hs ▸ ints_setE (h.r2 (up_at (by decide) k)) (h.n21 (up_at (by decide) k) h6) _ _ _, fun _ => ⟨g1, by omega, fun k => by rw [up_self] at k; cases k⟩, fun k => ?_,
    fun _ _ => hne, fun _ _ => h.n11 h2 h6, fun _ _ => h.n12 h2 h7, fun k _ => h.n21 (up_at (by decide) k) h6, fun k _ => h.n22 (up_at (by decide) k) h7, fun _ => ⟨by omega, setE_self (g3 h8) _ _ _⟩, fun k => ?_⟩
  · obtain ⟨k1, k2, k3⟩ := h.x2 h7
    exact ⟨k1, by omega, fun l => (setE_ne (Ne.symm hne) _ _ _).trans (k3 h9)⟩
  · rw [up_ne (by decide), h9] at k; cases k
/-- the second end is laid -/
theorem TwoS.lay2 (h : TwoS V pb pc b A1 A2 c1 c2 X Y w) (h5 : b 9 = true) (h6 : b 10 = true) (h7 : b 11 = true) (h8 : b 12 = true) (h9 : b 13 = false) : TwoS V pb pc (up b 13) A1 A2 c1 c2 X Y (setE w Y pc A2 c2) := by
  obtain ⟨g1, g2, g3⟩ := h.x2 h7
  have hs := setE_size w Y pc A2 c2
  have hne := h.ne h6 h7
  refine ⟨bel_setE h.bel g1 _ _ _, fun k => hs ▸ ints_setE (h.r1 (up_at (by decide) k)) (h.n12 (up_at (by decide) k) h7) _ _ _, fun k => hs ▸ ints_setE (h.r2 h5) (h.n22 h5 h7) _ _ _, fun k => ?_, fun _ => ⟨g1, by omega, fun k => by rw [up_self] at k; cases k⟩,
    fun _ _ => hne, fun k _ => h.n11 (up_at (by decide) k) h6, fun k _ => h.n12 (up_at (by decide) k) h7, fun k _ => h.n21 (up_at (by decide) k) h6, fun k _ => h.n22 (up_at (by decide) k) h7, fun k => ?_, fun _ => ⟨by omega, setE_self (g3 h9) _ _ _⟩⟩
  · obtain ⟨k1, k2, k3⟩ := h.x1 h6
    exact ⟨k1, by omega, fun l => by rw [up_ne (by decide), h8] at l; cases l⟩
  · obtain ⟨k1, k2⟩ := h.s1 h8
    exact ⟨by omega, (setE_ne hne _ _ _).trans k2⟩
/-- both lie in their variables -/
theorem TwoS.ends (h : TwoS V pb pc b A1 A2 c1 c2 X Y w) (h2 : b 4 = true) (h5 : b 9 = true) (h8 : b 12 = true) (h9 : b 13 = true) : Below V.heap.size V w ∧ EndAt w X pb ∧ EndAt w Y pc :=
  ⟨h.bel, ⟨A1, c1, (h.s1 h8).2, h.r1 h2⟩, ⟨A2, c2, (h.s2 h9).2, h.r2 h5⟩⟩
end
end Go.Proofs.YtnolhcdfknjncaaDoor
