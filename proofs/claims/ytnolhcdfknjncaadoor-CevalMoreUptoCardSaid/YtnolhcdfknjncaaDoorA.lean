/-
  Words shared by all texts of this seat: lists of ints in memory, core terms in memory, small lemmas.
-/
import Derived.WalkKit
import Derived.WalkLawsBesides
import Derived.WalkSpells
import Derived.Lib.Hide
import Derived.Deep.QuietTactic
import Derived.BigQuiet
import Derived.Test.YtnolhcdfknjncaaDoorProg
set_option linter.unusedVariables false
set_option linter.unusedSimpArgs false
namespace Go.Proofs.YtnolhcdfknjncaaDoor
open Go.RowKit

theorem ret_int {k : IntKind} {a b : Int} (h : a = b) : Ending.returned (.int k a) = .returned (.int k b) := by rw [h]
theorem ret_bool {a b : Bool} (h : a = b) : Ending.returned (.bool a) = .returned (.bool b) := by rw [h]

/-- behind a contract: old cells and marks read as before -/
theorem bcell {W w1 : World} (hb : Below W.heap.size W w1) : (∀ b o, b < W.heap.size → w1.cell? ⟨b, o, none⟩ = W.cell? ⟨b, o, none⟩) ∧ (∀ b o, b < W.heap.size → w1.frozen? ⟨b, o, none⟩ = W.frozen? ⟨b, o, none⟩) :=
  ⟨fun b o h => hb.cell (p := ⟨b, o, none⟩) h, fun b o h => hb.frozen (p := ⟨b, o, none⟩) h⟩
theorem below_of {w w' : World} (h : Below w.heap.size w w') {B : Nat} (hB : B ≤ w.heap.size) : Below B w w' := h.mono hB
theorem below_drewN {B : Nat} {a w : World} (h : Below B a w) (n : Nat) : Below B a (w.drewN n) := ⟨h.os, h.tape, h.output, h.size, h.block⟩
theorem below_alloc {w W : World} (h : Below w.heap.size w W) (o : Obj) : Below w.heap.size w (W.alloc o) := h.alloc h.size o
theorem below_then {B : Nat} {w w1 w2 : World} (h : Below B w w1) (hB : B ≤ w1.heap.size) (k : Below w1.heap.size w1 w2) : Below B w w2 :=
  h.trans ⟨k.os, k.tape, k.output, k.size, fun i hi => k.block i (Nat.lt_of_lt_of_le hi hB)⟩

/-- the element at a place: a word that the walk does not look into -/
def nth (l : List Int) (i : Nat) : Int := l[i]?.getD 0
theorem nth_eq (l : List Int) {i : Nat} (h : i < l.length) : nth l i = l[i] := by simp [nth, h]
theorem nth_mem (l : List Int) {i : Nat} (h : i < l.length) : nth l i ∈ l := by rw [nth_eq l h]; exact List.getElem_mem h
theorem nth_take (l : List Int) {i n : Nat} (h : i < n) : nth (l.take n) i = nth l i := by simp [nth, List.getElem?_take, h]
theorem take_snoc (l : List Int) {k : Nat} (h : k < l.length) : l.take (k + 1) = l.take k ++ [nth l k] := by
  rw [List.take_add_one, List.getElem?_eq_getElem h, nth_eq l h]; rfl

/-- ints in memory, in blocks below B -/
def IntsIn (B : Nat) (w : World) (A : Option Addr) (ks : List Int) : Prop :=
  ks.length * 8 ≤ 140737488351232 ∧ (ks = [] ∨ ∃ b o, A = some ⟨b, o, none⟩ ∧ b < B ∧ ∀ j, j < ks.length → w.cell? ⟨b, o + j, none⟩ = some (.int .i64 (nth ks j)))
theorem IntsIn.below {B : Nat} {w w' : World} {A : Option Addr} {ks : List Int} (h : IntsIn B w A ks) (hb : Below B w w') : IntsIn B w' A ks := by
  refine ⟨h.1, h.2.imp id ?_⟩
  rintro ⟨b, o, rfl, hlt, hc⟩
  exact ⟨b, o, rfl, hlt, fun j hj => (hb.cell (p := ⟨b, o + j, none⟩) hlt).trans (hc j hj)⟩
theorem IntsIn.mono {B B' : Nat} {w : World} {A : Option Addr} {ks : List Int} (h : IntsIn B w A ks) (hB : B ≤ B') : IntsIn B' w A ks := by
  refine ⟨h.1, h.2.imp id ?_⟩
  rintro ⟨b, o, rfl, hlt, hc⟩
  exact ⟨b, o, rfl, by omega, hc⟩
theorem IntsIn.take {B : Nat} {w : World} {A : Option Addr} {ks : List Int} (h : IntsIn B w A ks) (n : Nat) : IntsIn B w A (ks.take n) := by
  have hl : (ks.take n).length ≤ ks.length := by simp; omega
  refine ⟨by have := h.1; omega, ?_⟩
  rcases h.2 with rfl | ⟨b, o, rfl, hlt, hc⟩
  · left; simp
  · right
    refine ⟨b, o, rfl, hlt, fun j hj => ?_⟩
    rw [hc j (by omega), nth_take]
    simp at hj; omega
/-- where there is an element there is an address -/
theorem IntsIn.at_ {B : Nat} {w : World} {A : Option Addr} {ks : List Int} (h : IntsIn B w A ks) (hn : 0 < ks.length) :
    ∃ b o, A = some ⟨b, o, none⟩ ∧ b < B ∧ ∀ j, j < ks.length → w.cell? ⟨b, o + j, none⟩ = some (.int .i64 (nth ks j)) := by
  rcases h.2 with rfl | h
  · simp at hn
  · exact h

/-- a core term -/
inductive Core where
  | mk (k n : Int) (ks : List Int) (cs : List Core)
def Core.k : Core → Int | .mk k _ _ _ => k
def Core.n : Core → Int | .mk _ n _ _ => n
def Core.ks : Core → List Int | .mk _ _ ks _ => ks
def Core.cs : Core → List Core | .mk _ _ _ cs => cs
instance : Inhabited Core := ⟨.mk 0 0 [] []⟩

/-- a core term in memory, in blocks below B: its four cells -/
inductive CoreIn (B : Nat) (w : World) : Core → Array Value → Prop
  | mk {k n : Int} {ks : List Int} {cs : List Core} {Ak : Option Addr} {ck : Nat} {Ac : Option Addr} {cc : Nat} {b o : Nat} {G0 G1 G2 G3 : Nat → Value}
      (hks : IntsIn B w Ak ks) (hck : ks.length ≤ ck) (hcc : cs.length ≤ cc) (hcl : cs.length * 64 ≤ 140737488351232)
      (hA : 0 < cs.length → Ac = some ⟨b, o, none⟩ ∧ b < B)
      (c0 : ∀ i, i < cs.length → w.cell? ⟨b, o + i * 4, none⟩ = some (G0 i)) (c1 : ∀ i, i < cs.length → w.cell? ⟨b, o + i * 4 + 1, none⟩ = some (G1 i))
      (c2 : ∀ i, i < cs.length → w.cell? ⟨b, o + i * 4 + 2, none⟩ = some (G2 i)) (c3 : ∀ i, i < cs.length → w.cell? ⟨b, o + i * 4 + 3, none⟩ = some (G3 i))
      (hsub : ∀ i (h : i < cs.length), CoreIn B w cs[i] #[G0 i, G1 i, G2 i, G3 i]) :
      CoreIn B w (.mk k n ks cs) #[.int .i64 k, .int .i64 n, .slice Ak ks.length ck, .slice Ac cs.length cc]

theorem CoreIn.kept {B : Nat} {w w' : World} (hb : Below B w w') {t : Core} {v : Array Value} (h : CoreIn B w t v) : CoreIn B w' t v := by
  induction h with
  | mk hks hck hcc hcl hA c0 c1 c2 c3 hsub ih =>
    refine .mk (hks.below hb) hck hcc hcl hA ?_ ?_ ?_ ?_ ih
    · exact fun i hi => (hb.cell (p := ⟨_, _, none⟩) (hA (by omega)).2).trans (c0 i hi)
    · exact fun i hi => (hb.cell (p := ⟨_, _, none⟩) (hA (by omega)).2).trans (c1 i hi)
    · exact fun i hi => (hb.cell (p := ⟨_, _, none⟩) (hA (by omega)).2).trans (c2 i hi)
    · exact fun i hi => (hb.cell (p := ⟨_, _, none⟩) (hA (by omega)).2).trans (c3 i hi)
theorem CoreIn.mono {B B' : Nat} (hB : B ≤ B') {w : World} {t : Core} {v : Array Value} (h : CoreIn B w t v) : CoreIn B' w t v := by
  induction h with
  | mk hks hck hcc hcl hA c0 c1 c2 c3 hsub ih =>
    exact .mk (hks.mono hB) hck hcc hcl (fun h => ⟨(hA h).1, Nat.lt_of_lt_of_le (hA h).2 hB⟩) c0 c1 c2 c3 ih

/-- a term's Kids in memory -/
structure KidsIn (B : Nat) (w : World) (Ac : Option Addr) (cs : List Core) (b o : Nat) (G0 G1 G2 G3 : Nat → Value) : Prop where
  hcl : cs.length * 64 ≤ 140737488351232
  hA : 0 < cs.length → Ac = some ⟨b, o, none⟩ ∧ b < B
  c0 : ∀ i, i < cs.length → w.cell? ⟨b, o + i * 4, none⟩ = some (G0 i)
  c1 : ∀ i, i < cs.length → w.cell? ⟨b, o + i * 4 + 1, none⟩ = some (G1 i)
  c2 : ∀ i, i < cs.length → w.cell? ⟨b, o + i * 4 + 2, none⟩ = some (G2 i)
  c3 : ∀ i, i < cs.length → w.cell? ⟨b, o + i * 4 + 3, none⟩ = some (G3 i)
  hsub : ∀ i (h : i < cs.length), CoreIn B w cs[i] #[G0 i, G1 i, G2 i, G3 i]
theorem KidsIn.below {B : Nat} {w w' : World} {Ac : Option Addr} {cs : List Core} {b o : Nat} {G0 G1 G2 G3 : Nat → Value} (hb : Below B w w') (h : KidsIn B w Ac cs b o G0 G1 G2 G3) : KidsIn B w' Ac cs b o G0 G1 G2 G3 :=
  ⟨h.hcl, h.hA, fun i hi => (hb.cell (p := ⟨_, _, none⟩) (h.hA (by omega)).2).trans (h.c0 i hi), fun i hi => (hb.cell (p := ⟨_, _, none⟩) (h.hA (by omega)).2).trans (h.c1 i hi),
    fun i hi => (hb.cell (p := ⟨_, _, none⟩) (h.hA (by omega)).2).trans (h.c2 i hi), fun i hi => (hb.cell (p := ⟨_, _, none⟩) (h.hA (by omega)).2).trans (h.c3 i hi), fun i hi => (h.hsub i hi).kept hb⟩
theorem CoreIn.open_ {B : Nat} {w : World} {t : Core} {v : Array Value} (h : CoreIn B w t v) : ∃ k n ks cs Ak ck Ac cc b o G0 G1 G2 G3, t = .mk k n ks cs ∧
    v = #[.int .i64 k, .int .i64 n, .slice Ak ks.length ck, .slice Ac cs.length cc] ∧ IntsIn B w Ak ks ∧ ks.length ≤ ck ∧ cs.length ≤ cc ∧ KidsIn B w Ac cs b o G0 G1 G2 G3 := by
  cases h with
  | mk hks hck hcc hcl hA c0 c1 c2 c3 hsub => exact ⟨_, _, _, _, _, _, _, _, _, _, _, _, _, _, rfl, rfl, hks, hck, hcc, ⟨hcl, hA, c0, c1, c2, c3, hsub⟩⟩

def wrap31 (n : Int) : Int := (n + 1073741824) % 2147483648 - 1073741824
theorem wrap31_eq (n : Int) : wrap64 (wrap32 (n % 4294967296 * 2 % 4294967296) / 2) = wrap31 n := by
  unfold wrap64 wrap32 wrap31; omega
end Go.Proofs.YtnolhcdfknjncaaDoor
