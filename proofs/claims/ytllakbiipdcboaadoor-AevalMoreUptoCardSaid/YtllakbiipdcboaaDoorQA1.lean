/-
  2 texts of this seat in one: A E0.
-/
import Derived.WalkKit
import Derived.WalkLawsBesides
import Derived.WalkSpells
import Derived.Lib.Hide
import Derived.Deep.QuietTactic
import Derived.BigQuiet
import Derived.Test.YtllakbiipdcboaaDoorProg
/-
  Words shared by all texts of this seat: lists of ints in memory, core terms in memory, small lemmas.
-/
set_option linter.unusedVariables false
set_option linter.unusedSimpArgs false
namespace Go.Proofs.YtllakbiipdcboaaDoor
open Go.RowKit

theorem ret_int {k : IntKind} {a b : Int} (h : a = b) : Ending.returned (.int k a) = .returned (.int k b) := by rw [h]
theorem ret_bool {a b : Bool} (h : a = b) : Ending.returned (.bool a) = .returned (.bool b) := by rw [h]

theorem below_of {w w' : World} (h : Below w.heap.size w w') {B : Nat} (hB : B ≤ w.heap.size) : Below B w w' := h.mono hB
theorem below_drewN {B : Nat} {a w : World} (h : Below B a w) (n : Nat) : Below B a (w.drewN n) := ⟨h.os, h.tape, h.output, h.size, h.block⟩
theorem below_then {B : Nat} {w w1 w2 : World} (h : Below B w w1) (hB : B ≤ w1.heap.size) (k : Below w1.heap.size w1 w2) : Below B w w2 :=
  h.trans ⟨k.os, k.tape, k.output, k.size, fun i hi => k.block i (Nat.lt_of_lt_of_le hi hB)⟩

/-- the element at a place: a word that the walk does not look into -/
def nth (l : List Int) (i : Nat) : Int := l[i]?.getD 0
theorem nth_eq (l : List Int) {i : Nat} (h : i < l.length) : nth l i = l[i] := by simp [nth, h]
theorem nth_take (l : List Int) {i n : Nat} (h : i < n) : nth (l.take n) i = nth l i := by simp [nth, List.getElem?_take, h]
theorem take_snoc (l : List Int) {k : Nat} (h : k < l.length) : l.take (k + 1) = l.take k ++ [nth l k] := by
  rw [List.take_add_one, List.getElem?_eq_getElem h, nth_eq l h]; rfl

/-- ints in memory, in blocks below B -/
def IntsIn (B : Nat) (w : World) (A : Option Addr) (ks : List Int) : Prop :=
  ks.length * 8 ≤ 140737488351232 ∧ (ks = [] ∨ ∃ b o, A = some ⟨b, o, none⟩ ∧ b < B ∧ ∀ j, j < ks.length → w.cell? ⟨b, o + j, none⟩ = some (.int .i64 (nth ks j)))
theorem IntsIn.below {B : Nat} {w w' : World} {A : Option Addr} {ks : List Int} (h : IntsIn B w A ks) (hb : Below B w w') : IntsIn B w' A ks := by
  refine ⟨h.1, h.2.imp id ?_⟩
  rintro ⟨b, o, rfl, hlt, hc⟩
  exact ⟨b, o, rfl, hlt, fun j hj => (hb.cell (p := ⟨b, o + j, none⟩) hlt).trans (hc j hj)⟩
theorem IntsIn.mono {B B' : Nat} {w : World} {A : Option Addr} {ks : List Int} (h : IntsIn B w A ks) (hB : B ≤ B') : IntsIn B' w A ks := by
  refine ⟨h.1, h.2.imp id ?_⟩
  rintro ⟨b, o, rfl, hlt, hc⟩
  exact ⟨b, o, rfl, by omega, hc⟩
theorem IntsIn.take {B : Nat} {w : World} {A : Option Addr} {ks : List Int} (h : IntsIn B w A ks) (n : Nat) : IntsIn B w A (ks.take n) := by
  have hl : (ks.take n).length ≤ ks.length := by simp; omega
  refine ⟨by have := h.1; omega, ?_⟩
  rcases h.2 with rfl | ⟨b, o, rfl, hlt, hc⟩
  · left; simp
  · right
    refine ⟨b, o, rfl, hlt, fun j hj => ?_⟩
    rw [hc j (by omega), nth_take]
    simp at hj; omega
/-- where there is an element there is an address -/
theorem IntsIn.at_ {B : Nat} {w : World} {A : Option Addr} {ks : List Int} (h : IntsIn B w A ks) (hn : 0 < ks.length) :
    ∃ b o, A = some ⟨b, o, none⟩ ∧ b < B ∧ ∀ j, j < ks.length → w.cell? ⟨b, o + j, none⟩ = some (.int .i64 (nth ks j)) := by
  rcases h.2 with rfl | h
  · simp at hn
  · exact h

def wrap31 (n : Int) : Int := (n + 1073741824) % 2147483648 - 1073741824
theorem wrap31_eq (n : Int) : wrap64 (wrap32 (n % 4294967296 * 2 % 4294967296) / 2) = wrap31 n := by
  unfold wrap64 wrap32 wrap31; omega
end Go.Proofs.YtllakbiipdcboaaDoor

/-
  The evaluator of core terms in plain Lean: what the program's ceval and the document's answer both compute.
-/
set_option linter.unusedVariables false
set_option linter.unusedSimpArgs false
namespace Go.Proofs.YtllakbiipdcboaaDoor

/-- a value -/
inductive PV where
  | int (n : Int)
  | blk (tag : Int) (kids : List PV)
  | fn (i : Nat)
  | ref (i : Nat)
instance : Inhabited PV := ⟨.int 0⟩
abbrev PEnv := List (Int × PV)
inductive Res where
  | val (v : PV)
  | raised (v : PV)
  | stuck
  | cut
/-- a value's key -/
def keyOf : PV → Option Int
  | .int n => some n
  | .blk t _ => some t
  | _ => none
def numOf : PV → Option Int
  | .int n => some n
  | _ => none

def lookup (e : PEnv) (x : Int) : Option PV := (e.find? (fun p => p.1 == x)).map (·.2)

/-- the place of a key among some, from 1 on; 0: none -/
def whichAt (keys : List Int) (key : Int) : Nat := match keys.findIdx? (· == key) with | some i => i + 1 | none => 0

/-- what is done with two ints -/
def doP (p a b : Int) : Option Int :=
  let a := wrap31 a
  let b := wrap31 b
  if (p = 4 ∨ p = 5) ∧ b = 0 then none
  else some (wrap31 (if p = 1 then a + b else if p = 2 then a - b else if p = 3 then a * b else if p = 4 then a.tdiv b else if p = 5 then a.tmod b
    else if p = 6 then (if a = b then 1 else 0) else if p = 7 then (if a ≠ b then 1 else 0) else if p = 8 then (if a < b then 1 else 0) else (if a ≤ b then 1 else 0)))

/-- how a run ends: kind, N, what was printed, steps -/
structure PEnd where
  kind : Int
  n : Int
  out : List Int
  steps : Nat
/-- fuel as a run takes it -/
def fuelOf (f : Int) : Nat := (min (max f 0) 1000000).toNat
end Go.Proofs.YtllakbiipdcboaaDoor
