/-
  The law's small functions: lists of ints compared; how many nodes a term has.
-/
import Derived.Test.YtnolhcdfknjncaaDoorU3
import Derived.Test.YtnolhcdfknjncaaDoorL2
set_option linter.unusedVariables false
set_option linter.unusedSimpArgs false
namespace Go.Proofs.YtnolhcdfknjncaaDoor
open Go.RowKit

def BoolPost (b : Bool) (w : World) (e : Ending) (w' : World) : Prop := e = .returned (.bool b) ∧ ∃ n, w' = w.drewN n
theorem drewN_0 (w : World) : w = w.drewN 0 := rfl
theorem drewN_add (w : World) (a b : Nat) : (w.drewN a).drewN b = w.drewN (a + b) := by
  simp [World.drewN, Nat.add_assoc]
def beginsB (a b : List Int) : Bool := decide (b <+: a)
theorem beginsB_short {a b : List Int} (h : a.length < b.length) : beginsB a b = false := by
  simp only [beginsB, decide_eq_false_iff_not]
  intro hp
  have := hp.length_le
  omega
theorem beginsB_no {a b : List Int} {j : Nat} (hj : j < b.length) (hja : j < a.length) (h : nth a j ≠ nth b j) : beginsB a b = false := by
  simp only [beginsB, decide_eq_false_iff_not]
  rintro ⟨r, rfl⟩
  apply h
  rw [nth_eq _ hja, nth_eq _ hj, List.getElem_append_left hj]
theorem beginsB_yes {a b : List Int} (hl : b.length ≤ a.length) (h : ∀ j, j < b.length → nth a j = nth b j) : beginsB a b = true := by
  simp only [beginsB, decide_eq_true_eq]
  have : b = a.take b.length := by
    apply List.ext_getElem
    · simp; omega
    · intro i h1 h2
      have := h i h1
      rw [nth_eq _ (by omega), nth_eq _ h1] at this
      simp [this]
  rw [this]
  exact List.take_prefix _ _

set_option maxRecDepth 100000 in
set_option maxHeartbeats 2000000 in
theorem begins_any {a b : List Int} {A A' : Option Addr} {c c' : Nat} (w : World) (ha : IntsIn w.heap.size w A a) (hb : IntsIn w.heap.size w A' b) :
    Calls Tryd.prog 14 #[.slice A a.length c, .slice A' b.length c'] w (BoolPost (beginsB a b) w) := by
  by_cases hs : a.length < b.length
  · have HB := Lib.hid (beginsB_short hs)
    go_enter Tryd.func14, Tryd.ntmps14
    have hs' : (a.length : Int) < (b.length : Int) := by omega
    go_wp2_with fail
    go_ret
    exact ⟨ret_bool HB.out.symm, 0, rfl⟩
  · have hs' : ¬ (a.length : Int) < (b.length : Int) := by omega
    have h1 := ha.1
    have h2 := hb.1
    have HA := Lib.hid ha
    have HBI := Lib.hid hb
    clear ha hb
    go_enter Tryd.func14, Tryd.ntmps14
    go_wp2_with fail
    go_loopw [5] (fun i wr => ∃ (j n : Nat), j ≤ b.length ∧ i = .int .i64 (j : Int) ∧ wr = w.drewN n ∧ Hid (∀ q, q < j → nth a q = nth b q)) (fun i _ => b.length + 1 - (intOf i).toNat)
    case atStart => exact ⟨0, 0, by omega, rfl, rfl, Lib.hid (by intro q h; omega)⟩
    case round =>
      obtain ⟨j, n, hj, rfl, rfl, hq⟩ := hrel
      by_cases hlt : j < b.length
      · obtain ⟨ab, ao, rfl, hab, hac⟩ := HA.out.at_ (by omega)
        obtain ⟨bb, bo, rfl, hbb, hbc⟩ := HBI.out.at_ (by omega)
        have ca : w.cell? ⟨ab, ao + j, none⟩ = some (.int .i64 (nth a j)) := hac j (by omega)
        have cb : w.cell? ⟨bb, bo + j, none⟩ = some (.int .i64 (nth b j)) := hbc j (by omega)
        have hj0 : (0 : Int) ≤ (j : Int) := by omega
        have hja : (j : Int) < (a.length : Int) := by omega
        have hjb : (j : Int) < (b.length : Int) := by omega
        clear hac hbc
        by_cases hx : nth a j = nth b j
        · have hx' : (nth a j == nth b j) = true := by simpa using hx
          have hq' : Hid (∀ q, q < j + 1 → nth a q = nth b q) := Lib.hid (fun q hlt' => by
            by_cases h : q = j
            · subst h; exact hx
            · exact hq.out q (by omega))
          clear hx
          generalize nth a j = x at *
          generalize nth b j = y at *
          obtain rfl : x = y := by simpa using hx'
          go_wp2_with fail
          go_quiet (fail)
          go_wp2_with fail
          go_roundw
          case rel => exact ⟨j + 1, _, by omega, by go_num, rfl, hq'⟩
          case measure => simp [intOf]; omega
        · have hx' : (nth a j == nth b j) = false := by simpa using hx
          have HB := Lib.hid (beginsB_no hlt (by omega) hx)
          have HXN := Lib.hid hx
          clear hx
          generalize nth a j = x at *
          generalize nth b j = y at *
          go_wp2_with fail
          go_quiet (fail)
          go_wp2_with fail
          go_ret
          exact ⟨ret_bool HB.out.symm, _, drewN_add _ _ _⟩
      · have hjl : ¬ (j : Int) < (b.length : Int) := by omega
        have HB := Lib.hid (beginsB_yes (a := a) (b := b) (by omega) (fun q h => hq.out q (by omega)))
        go_wp2_with fail
        go_ret
        exact ⟨ret_bool HB.out.symm, n, rfl⟩

theorem begins_eq {a b : List Int} (h : a.length = b.length) : beginsB a b = decide (a = b) := by
  simp only [beginsB, decide_eq_decide]
  constructor
  · intro hp; exact (hp.eq_of_length h.symm).symm
  · rintro rfl; exact List.prefix_refl _

set_option maxRecDepth 100000 in
set_option maxHeartbeats 2000000 in
theorem sameInts_any {a b : List Int} {A A' : Option Addr} {c c' : Nat} (w : World) (ha : IntsIn w.heap.size w A a) (hb : IntsIn w.heap.size w A' b) :
    Calls Tryd.prog 22 #[.slice A a.length c, .slice A' b.length c'] w (BoolPost (decide (a = b)) w) := by
  by_cases hs : a.length = b.length
  · have HB := Lib.hid (begins_eq hs)
    have hs' : ((a.length : Int) == (b.length : Int)) = true := by simp [hs]
    have HC := Lib.hid (begins_any (c := c) (c' := c') w ha hb)
    clear ha hb
    generalize a.length = la at *
    generalize b.length = lb at *
    subst hs
    go_enter Tryd.func22, Tryd.ntmps22
    go_wp2_with (go_at_call 14; refine HC.out.mono ?_; rintro e w' ⟨rfl, n, rfl⟩)
    go_ret
    exact ⟨ret_bool HB.out, n, rfl⟩
  · have HB := Lib.hid (show decide (a = b) = false from by simp; intro h; exact hs (by rw [h]))
    have hs' : ((a.length : Int) == (b.length : Int)) = false := by simp; omega
    clear ha hb
    generalize a.length = la at *
    generalize b.length = lb at *
    go_enter Tryd.func22, Tryd.ntmps22
    go_wp2_with fail
    go_ret
    exact ⟨ret_bool HB.out.symm, 0, rfl⟩

/-- an end as a value -/
def EndV (w : World) (pe : PEnd) (v : Value) : Prop := ∃ A c, v = .agg #[.int .i64 pe.kind, .int .i64 pe.n, .slice A pe.out.length c, .int .i64 pe.steps] ∧ IntsIn w.heap.size w A pe.out
theorem EndV.below {w w' : World} {pe : PEnd} {v : Value} (h : EndV w pe v) (hb : Below w.heap.size w w') : EndV w' pe v := by
  obtain ⟨A, c, rfl, hi⟩ := h
  exact ⟨A, c, rfl, (hi.below hb).mono hb.size⟩
def sameE (p q : PEnd) : Bool := decide (p.kind = q.kind ∧ p.n = q.n ∧ p.out = q.out)
def BoolBelow (b : Bool) (w : World) (e : Ending) (w' : World) : Prop := e = .returned (.bool b) ∧ Below w.heap.size w w'

set_option maxRecDepth 100000 in
set_option maxHeartbeats 2000000 in
theorem same_any {p q : PEnd} {v u : Value} (w : World) (hp : EndV w p v) (hq : EndV w q u) : Calls Tryd.prog 12 #[v, u] w (BoolBelow (sameE p q) w) := by
  obtain ⟨A, c, rfl, hi⟩ := hp
  obtain ⟨A', c', rfl, hi'⟩ := hq
  have hb : Below w.heap.size w ((w.alloc (.cells #[.int .i64 p.kind, .int .i64 p.n, .slice A p.out.length c, .int .i64 p.steps] 31)).alloc (.cells #[.int .i64 q.kind, .int .i64 q.n, .slice A' q.out.length c', .int .i64 q.steps] 31)) :=
    ((Below.refl _ _).alloc (Nat.le_refl _) _).alloc (by rw [World.size_alloc]; exact Nat.le_succ _) _
  have HC := Lib.hid (sameInts_any (c := c) (c' := c') _ ((hi.below hb).mono hb.size) ((hi'.below hb).mono hb.size))
  have HB := Lib.hid hb
  clear hi hi' hb
  by_cases h1 : p.kind = q.kind
  · have h1' : (p.kind == q.kind) = true := by simpa using h1
    by_cases h2 : p.n = q.n
    · have h2' : (p.n == q.n) = true := by simpa using h2
      have HS := Lib.hid (show sameE p q = decide (p.out = q.out) from by simp [sameE, h1, h2])
      clear h1 h2
      generalize p.kind = pk at *
      generalize q.kind = qk at *
      generalize p.n = pn at *
      generalize q.n = qn at *
      go_enter Tryd.func12, Tryd.ntmps12
      go_wp2_with (go_at_call 22; refine HC.out.mono ?_; rintro e w' ⟨rfl, n, rfl⟩)
      go_ret
      exact ⟨ret_bool HS.out.symm, below_drewN HB.out n⟩
    · have h2' : (p.n == q.n) = false := by simpa using h2
      have HS := Lib.hid (show sameE p q = false from by simp [sameE, h2])
      clear h1 h2
      go_enter Tryd.func12, Tryd.ntmps12
      go_wp2_with fail
      go_ret
      exact ⟨ret_bool HS.out.symm, HB.out⟩
  · have h1' : (p.kind == q.kind) = false := by simpa using h1
    have HS := Lib.hid (show sameE p q = false from by simp [sameE, h1])
    clear h1
    go_enter Tryd.func12, Tryd.ntmps12
    go_wp2_with fail
    go_ret
    exact ⟨ret_bool HS.out.symm, HB.out⟩

theorem short_any (f : Int) (w : World) : Calls Tryd.prog 10 #[.int .i64 f] w fun e w' => e = .returned (.int .i64 (min f 1500)) ∧ w = w' := by
  go_enter Tryd.func10, Tryd.ntmps10
  go_wp2_with fail
  all_goals
    go_ret
    exact ⟨ret_int (by omega), rfl⟩
end Go.Proofs.YtnolhcdfknjncaaDoor
