/-
  What is wrong with one node of a core term, second part: slices.Index, slices.Contains, core.evens, core.keys, core.node.
-/
import Derived.Test.YtnolhcdfknjncaaDoorR1
import Derived.Maps.AppendAt
set_option linter.unusedVariables false
set_option linter.unusedSimpArgs false
namespace Go.Proofs.YtnolhcdfknjncaaDoor
open Go.RowKit

def IdxSaid (v : Int) (ks : List Int) (w : World) (e : Ending) (w' : World) : Prop := ∃ r : Int, e = .returned (.int .i64 r) ∧ (0 ≤ r ↔ v ∈ ks) ∧ w = w'

theorem index_any (A : Option Addr) (c : Nat) (ks : List Int) (v : Int) (B : Nat) (w : World) (h : IntsIn B w A ks) :
    Calls Tryd.prog 91 #[.slice A ks.length c, .int .i64 v] w (IdxSaid v ks w) := by
  have hl := h.1
  go_enter Tryd.func91, Tryd.ntmps91
  go_wp2
  go_loop [8] (fun i => ∃ k : Nat, k ≤ ks.length ∧ i = .int .i64 k ∧ v ∉ ks.take k) (fun i => ks.length - (intOf i).toNat)
  case atStart => exact ⟨0, by omega, rfl, by simp⟩
  case round =>
    obtain ⟨k, hk, rfl, hn⟩ := hrel
    by_cases hlt : k < ks.length
    · obtain ⟨b, o, rfl, hb, hc⟩ := h.at_ (by omega)
      have hck := hc k hlt
      have hts := Lib.hid (take_snoc ks hlt)
      clear hc h
      by_cases hv : v = nth ks k
      · have hv' : (v == nth ks k) = true := by simpa using hv
        have hmem : v ∈ ks := by rw [hv]; exact nth_mem ks hlt
        have HV := Lib.hid hv; clear hv
        go_wp2
        go_ret
        exact ⟨_, rfl, by simp [hmem], rfl⟩
      · have hv' : (v == nth ks k) = false := by simpa using hv
        go_wp2
        go_round
        case rel => exact ⟨k + 1, by omega, by go_num, by rw [hts.out]; simp [hn, hv]⟩
        case measure => simp [intOf]; omega
    · have hnot : v ∉ ks := by rwa [List.take_of_length_le (by omega)] at hn
      go_wp2
      go_ret
      exact ⟨_, rfl, by simp [hnot], rfl⟩

theorem contains_any (A : Option Addr) (c : Nat) (ks : List Int) (v : Int) (B : Nat) (w : World) (h : IntsIn B w A ks) :
    Calls Tryd.prog 84 #[.slice A ks.length c, .int .i64 v] w fun e w' => e = .returned (.bool (decide (v ∈ ks))) ∧ w = w' := by
  go_enter Tryd.func84, Tryd.ntmps84
  go_wp2_with (go_at_call 91; refine (index_any A c ks v B _ h).mono ?_; rintro e w' ⟨r, rfl, hr, rfl⟩)
  go_ret
  exact ⟨ret_bool (by first | rfl | (rw [Bool.eq_iff_iff]; simpa using hr)), rfl⟩

/-! ### evens -/
def evensL : List Int → List Int
  | [] => []
  | [a] => [a]
  | a :: _ :: l => a :: evensL l
theorem evens_length (l : List Int) : (evensL l).length ≤ l.length := by
  induction l using evensL.induct <;> simp_all [evensL] <;> omega
theorem evens_take (l : List Int) (k : Nat) (h : 2 * k < l.length) : evensL (l.take (2 * k + 2)) = evensL (l.take (2 * k)) ++ [nth l (2 * k)] := by
  induction l using evensL.induct generalizing k with
  | case1 => simp at h
  | case2 a => have : k = 0 := by simp at h; omega
               subst this; simp [evensL, nth]
  | case3 a b l ih =>
    cases k with
    | zero => cases l <;> simp [evensL, nth]
    | succ k =>
      have e1 : 2 * (k + 1) + 2 = (2 * k + 2) + 1 + 1 := by omega
      have e2 : 2 * (k + 1) = 2 * k + 1 + 1 := by omega
      rw [e1, e2]
      have e3 : nth (a :: b :: l) (2 * k + 1 + 1) = nth l (2 * k) := by simp [nth]
      rw [e3]
      simp only [List.take_succ_cons, evensL, List.cons_append]
      rw [ih k (by simp at h; omega)]
theorem evens_take_length (l : List Int) (k : Nat) (h : 2 * k ≤ l.length + 1) : (evensL (l.take (2 * k))).length = k := by
  induction k with
  | zero => simp [evensL]
  | succ k ih =>
    have e1 : 2 * (k + 1) = 2 * k + 2 := by omega
    rw [e1, evens_take l k (by omega)]; simp; exact ih (by omega)

theorem Tryd.info3 : (Tryd.prog.info? 3).map (fun i => (i.zero, i.size, i.bytes)) = some (some (.int .i64 0), 1, 8) := by kernel_rfl

/-- a slice of new memory that reads as a list -/
def NewInts (ks : List Int) (w : World) (e : Ending) (w' : World) : Prop :=
  ∃ A c, e = .returned (.slice A ks.length c) ∧ IntsIn w'.heap.size w' A ks ∧ ks.length ≤ c ∧ Below w.heap.size w w'

/-- what a call owns reads as a list -/
theorem own_ints {w : World} {base n : Nat} {e : TypeId} {v : Value} {xs : List Int} (h : w.ownsRow base e 1 v n (xs.map (Value.int .i64))) (hb : xs.length * 8 ≤ 140737488351232) :
    ∃ A c, v = .slice A xs.length c ∧ IntsIn w.heap.size w A xs ∧ xs.length ≤ c := by
  have hl : xs.length = n := by have := h.1; simpa using this
  subst hl
  rcases h.2 with ⟨rfl, h0⟩ | ⟨g, cap, cur, rfl, _, hh, h1, _⟩
  · have hx : xs = [] := List.eq_nil_of_length_eq_zero h0
    exact ⟨none, 0, by simp [h0], ⟨hb, .inl hx⟩, by omega⟩
  · refine ⟨_, cap, rfl, ⟨hb, .inr ⟨g, 0, rfl, (Array.getElem?_eq_some_iff.1 hh).1, fun j hj => ?_⟩⟩, h1⟩
    have := World.ownsRow.cells h (g := g) rfl j (.int .i64 (nth xs j)) (by simp [List.getElem?_eq_getElem hj, nth_eq xs hj])
    have ha : (⟨g, 0, none⟩ : Addr).add j = ⟨g, 0 + j, none⟩ := by unfold Addr.add; split <;> simp_all
    rwa [ha] at this

set_option maxRecDepth 100000 in
set_option maxHeartbeats 800000 in
theorem evens_any (A : Option Addr) (c : Nat) (ks : List Int) (B : Nat) (w : World) (h : IntsIn B w A ks) (hB : B ≤ w.heap.size) :
    Calls Tryd.prog 85 #[.slice A ks.length c] w (NewInts (evensL ks) w) := by
  have hl := h.1
  obtain ⟨i0, hi, hz0, hz1, hz2⟩ := info_parts Tryd.info3
  go_enter Tryd.func85, Tryd.ntmps85
  go_wp2
  go_loopw [3, 4] (fun v i wr => ∃ k : Nat, 2 * k ≤ ks.length + 1 ∧ i = .int .i64 (2 * (k : Int)) ∧ wr.ownsRow w.heap.size 3 1 v k ((evensL (ks.take (2 * k))).map (Value.int .i64)) ∧ Below w.heap.size w wr) (fun _ i _ => ks.length + 2 - (intOf i).toNat)
  case atStart => exact ⟨0, by omega, rfl, ⟨by simp [evensL], .inl ⟨rfl, rfl⟩⟩, Below.refl _ _⟩
  case round =>
    obtain ⟨k, hk, rfl, hown, hbel⟩ := hrel
    by_cases hlt : 2 * k < ks.length
    · obtain ⟨b, o, rfl, hb, hc⟩ := (h.below (hbel.mono hB)).at_ (by omega)
      have hck := hc (2 * k) hlt
      have hev := Lib.hid (evens_take ks k hlt)
      clear hc h
      have hlt' : 2 * (k : Int) < (ks.length : Int) := by omega
      have hnat : (2 * (k : Int)).toNat = 2 * k := by omega
      have HN := Lib.hid hnat
      have hml : k + 1 ≤ maxLen := by unfold maxLen; omega
      go_wp2_with (at_builtin; refine wpList_append_own _ rfl _ _ 23 rfl w.heap.size 3 i0 (.int .i64 0) 1 8 Tryd.underlying23 hi hz0 hz1 hz2 rfl (by decide) _ _ _ rfl (hown.alloc _) ⟨wr.heap.size, 0, none⟩ 1 1 [.int .i64 (nth ks (2 * k))] rfl rfl (cell_one_new _ _ _) (by simp [Value.oneCell']) hml (by omega) (by have := hbel.size; simp; omega) ?_; intro v' w1 hown' hgrow _)
      have hb1 : Below w.heap.size w w1 := (hbel.alloc hbel.size _).grown hgrow (by have := hbel.size; simp; omega) (fun j hj => (hown.lt j hj).1)
      clear hown hgrow hck
      go_wp2
      go_roundw
      case rel => exact ⟨k + 1, by omega, by go_num, by have e : 2 * (k + 1) = 2 * k + 2 := by omega
                                                        rw [e, hev.out]; simpa using hown', hb1⟩
      case measure => simp [intOf]; omega
    · have hfull : ks.take (2 * k) = ks := List.take_of_length_le (by omega)
      have hlen : (evensL ks).length = k := by
        have := evens_take_length ks k (by omega)
        rwa [hfull] at this
      have HF := Lib.hid hfull; clear hfull
      have HL := Lib.hid hlen; clear hlen
      have hlt' : ¬ 2 * (k : Int) < (ks.length : Int) := by omega
      go_wp2
      go_ret
      rw [HF.out] at hown
      obtain ⟨A', c', rfl, hin, hc'⟩ := own_ints hown (by have := evens_length ks; omega)
      exact ⟨A', c', rfl, hin, hc', hbel⟩

end Go.Proofs.YtnolhcdfknjncaaDoor
