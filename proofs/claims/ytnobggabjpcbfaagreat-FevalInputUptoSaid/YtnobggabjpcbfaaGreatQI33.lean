/-
 2 texts of this seat in one: B4 B5.
-/
import Derived.Test.YtnobggabjpcbfaaGreatQI20
import Derived.Test.YtnobggabjpcbfaaGreatQI14
set_option maxRecDepth 100000
set_option maxHeartbeats 16000000
set_option linter.unusedVariables false
set_option linter.unusedSimpArgs false
namespace Go.Proofs.YtnobggabjpcbfaaGreat
open Go.RowKit
def BoolPost (b : Bool) (w : World) (e : Ending) (w' : World) : Prop := e = .returned (.bool b) ∧ ∃ n, w' = w.drewN n
theorem drewN_add (w : World) (a b : Nat) : (w.drewN a).drewN b = w.drewN (a + b) := by
 simp [World.drewN, Nat.add_assoc]
def beginsB (a b : List Int) : Bool := decide (b <+: a)
theorem beginsB_short {a b : List Int} (h : a.length < b.length) : beginsB a b = false := by
 simp only [beginsB, decide_eq_false_iff_not]
 intro hp
 have := hp.length_le
 omega
theorem beginsB_no {a b : List Int} {j : Nat} (hj : j < b.length) (hja : j < a.length) (h : nth a j ≠ nth b j) : beginsB a b = false := by
 simp only [beginsB, decide_eq_false_iff_not]
 rintro ⟨r, rfl⟩
 apply h
 rw [nth_eq _ hja, nth_eq _ hj, List.getElem_append_left hj]
theorem beginsB_yes {a b : List Int} (hl : b.length ≤ a.length) (h : ∀ j, j < b.length → nth a j = nth b j) : beginsB a b = true := by
 simp only [beginsB, decide_eq_true_eq]
 have : b = a.take b.length := by
  apply List.ext_getElem
  · simp; omega
  · intro i h1 h2
    have := h i h1
    rw [nth_eq _ (by omega), nth_eq _ h1] at this
    simp [this]
 rw [this]
 exact List.take_prefix _ _
theorem begins_any {a b : List Int} {A A' : Option Addr} {c c' : Nat} (w : World) (ha : IntsIn w.heap.size w A a) (hb : IntsIn w.heap.size w A' b) :
 Calls Tryz.prog 30 #[.slice A a.length c, .slice A' b.length c'] w (BoolPost (beginsB a b) w) := by
 by_cases hs : a.length < b.length
 · have HB := Lib.hid (beginsB_short hs)
   go_enter Tryz.func30, Tryz.ntmps30
   have hs' : (a.length : Int) < (b.length : Int) := by omega
   go_wp2_with fail
   go_ret
   exact ⟨ret_bool HB.out.symm, 0, rfl⟩
 · have hs' : ¬ (a.length : Int) < (b.length : Int) := by omega
   have h1 := ha.1
   have h2 := hb.1
   have HA := Lib.hid ha
   have HBI := Lib.hid hb
   clear ha hb
   go_enter Tryz.func30, Tryz.ntmps30
   go_wp2_with fail
   go_loopw [5] (fun i wr => ∃ (j n : Nat), j ≤ b.length ∧ i = .int .i64 (j : Int) ∧ wr = w.drewN n ∧ Hid (∀ q, q < j → nth a q = nth b q)) (fun i _ => b.length + 1 - (intOf i).toNat)
   case atStart => exact ⟨0, 0, by omega, rfl, rfl, Lib.hid (by intro q h; omega)⟩
   case round =>
    obtain ⟨j, n, hj, rfl, rfl, hq⟩ := hrel
    by_cases hlt : j < b.length
    · obtain ⟨ab, ao, rfl, hab, hac⟩ := HA.out.at_ (by omega)
      obtain ⟨bb, bo, rfl, hbb, hbc⟩ := HBI.out.at_ (by omega)
      have ca : w.cell? ⟨ab, ao + j, none⟩ = some (.int .i64 (nth a j)) := hac j (by omega)
      have cb : w.cell? ⟨bb, bo + j, none⟩ = some (.int .i64 (nth b j)) := hbc j (by omega)
      have hj0 : (0 : Int) ≤ (j : Int) := by omega
      have hja : (j : Int) < (a.length : Int) := by omega
      have hjb : (j : Int) < (b.length : Int) := by omega
      clear hac hbc
      by_cases hx : nth a j = nth b j
      · have hx' : (nth a j == nth b j) = true := by simpa using hx
        have hq' : Hid (∀ q, q < j + 1 → nth a q = nth b q) := Lib.hid (fun q hlt' => by
         by_cases h : q = j
         · subst h; exact hx
         · exact hq.out q (by omega))
        clear hx
        generalize nth a j = x at *
        generalize nth b j = y at *
        obtain rfl : x = y := by simpa using hx'
        go_wp2_with fail
        go_quiet (fail)
        go_wp2_with fail
        go_roundw
        case rel => exact ⟨j + 1, _, by omega, by go_num, rfl, hq'⟩
        case measure => simp [intOf]; omega
      · have hx' : (nth a j == nth b j) = false := by simpa using hx
        have HB := Lib.hid (beginsB_no hlt (by omega) hx)
        have HXN := Lib.hid hx
        clear hx
        generalize nth a j = x at *
        generalize nth b j = y at *
        go_wp2_with fail
        go_quiet (fail)
        go_wp2_with fail
        go_ret
        exact ⟨ret_bool HB.out.symm, _, drewN_add _ _ _⟩
    · have hjl : ¬ (j : Int) < (b.length : Int) := by omega
      have HB := Lib.hid (beginsB_yes (a := a) (b := b) (by omega) (fun q h => hq.out q (by omega)))
      go_wp2_with fail
      go_ret
      exact ⟨ret_bool HB.out.symm, n, rfl⟩
theorem begins_eq {a b : List Int} (h : a.length = b.length) : beginsB a b = decide (a = b) := by
 simp only [beginsB, decide_eq_decide]
 constructor
 · intro hp; exact (hp.eq_of_length h.symm).symm
 · rintro rfl; exact List.prefix_refl _
theorem sameInts_any {a b : List Int} {A A' : Option Addr} {c c' : Nat} (w : World) (ha : IntsIn w.heap.size w A a) (hb : IntsIn w.heap.size w A' b) :
 Calls Tryz.prog 19 #[.slice A a.length c, .slice A' b.length c'] w (BoolPost (decide (a = b)) w) := by
 by_cases hs : a.length = b.length
 · have HB := Lib.hid (begins_eq hs)
   have hs' : ((a.length : Int) == (b.length : Int)) = true := by simp [hs]
   have HC := Lib.hid (begins_any (c := c) (c' := c') w ha hb)
   clear ha hb
   generalize a.length = la at *
   generalize b.length = lb at *
   subst hs
   go_enter Tryz.func19, Tryz.ntmps19
   go_wp2_with (go_at_call 30; refine HC.out.mono ?_; rintro e w' ⟨rfl, n, rfl⟩)
   go_ret
   exact ⟨ret_bool HB.out, n, rfl⟩
 · have HB := Lib.hid (show decide (a = b) = false from by simp; intro h; exact hs (by rw [h]))
   have hs' : ((a.length : Int) == (b.length : Int)) = false := by simp; omega
   clear ha hb
   generalize a.length = la at *
   generalize b.length = lb at *
   go_enter Tryz.func19, Tryz.ntmps19
   go_wp2_with fail
   go_ret
   exact ⟨ret_bool HB.out.symm, 0, rfl⟩
def EndV (w : World) (pe : PEnd) (v : Value) : Prop := ∃ A c, v = .agg #[.int .i64 pe.kind, .int .i64 pe.n, .slice A pe.out.length c, .int .i64 pe.steps] ∧ IntsIn w.heap.size w A pe.out
def sameE (p q : PEnd) : Bool := decide (p.kind = q.kind ∧ p.n = q.n ∧ p.out = q.out)
def BoolBelow (b : Bool) (w : World) (e : Ending) (w' : World) : Prop := e = .returned (.bool b) ∧ Below w.heap.size w w'
theorem same_any {p q : PEnd} {v u : Value} (w : World) (hp : EndV w p v) (hq : EndV w q u) : Calls Tryz.prog 10 #[v, u] w (BoolBelow (sameE p q) w) := by
 obtain ⟨A, c, rfl, hi⟩ := hp
 obtain ⟨A', c', rfl, hi'⟩ := hq
 have hb : Below w.heap.size w ((w.alloc (.cells #[.int .i64 p.kind, .int .i64 p.n, .slice A p.out.length c, .int .i64 p.steps] 35)).alloc (.cells #[.int .i64 q.kind, .int .i64 q.n, .slice A' q.out.length c', .int .i64 q.steps] 35)) :=
  ((Below.refl _ _).alloc (Nat.le_refl _) _).alloc (by rw [World.size_alloc]; exact Nat.le_succ _) _
 have HC := Lib.hid (sameInts_any (c := c) (c' := c') _ ((hi.below hb).mono hb.size) ((hi'.below hb).mono hb.size))
 have HB := Lib.hid hb
 clear hi hi' hb
 by_cases h1 : p.kind = q.kind
 · have h1' : (p.kind == q.kind) = true := by simpa using h1
   by_cases h2 : p.n = q.n
   · have h2' : (p.n == q.n) = true := by simpa using h2
     have HS := Lib.hid (show sameE p q = decide (p.out = q.out) from by simp [sameE, h1, h2])
     clear h1 h2
     generalize p.kind = pk at *
     generalize q.kind = qk at *
     generalize p.n = pn at *
     generalize q.n = qn at *
     go_enter Tryz.func10, Tryz.ntmps10
     go_wp2_with (go_at_call 19; refine HC.out.mono ?_; rintro e w' ⟨rfl, n, rfl⟩)
     go_ret
     exact ⟨ret_bool HS.out.symm, below_drewN HB.out n⟩
   · have h2' : (p.n == q.n) = false := by simpa using h2
     have HS := Lib.hid (show sameE p q = false from by simp [sameE, h2])
     clear h1 h2
     go_enter Tryz.func10, Tryz.ntmps10
     go_wp2_with fail
     go_ret
     exact ⟨ret_bool HS.out.symm, HB.out⟩
 · have h1' : (p.kind == q.kind) = false := by simpa using h1
   have HS := Lib.hid (show sameE p q = false from by simp [sameE, h1])
   clear h1
   go_enter Tryz.func10, Tryz.ntmps10
   go_wp2_with fail
   go_ret
   exact ⟨ret_bool HS.out.symm, HB.out⟩
theorem short_any (f : Int) (w : World) : Calls Tryz.prog 8 #[.int .i64 f] w fun e w' => e = .returned (.int .i64 (min f 1500)) ∧ w = w' := by
 go_enter Tryz.func8, Tryz.ntmps8
 go_wp2_with fail
 all_goals
  go_ret
  exact ⟨ret_int (by omega), rfl⟩
end Go.Proofs.YtnobggabjpcbfaaGreat
namespace Go.Proofs.YtnobggabjpcbfaaGreat
open Go.RowKit Go.Maps
def kbody : Anf := .bind 2 4 1 [⟨true, 0⟩] [] [] (.bind 3 2 1 [⟨true, 1⟩, ⟨true, 2⟩] [] [] (.ret ⟨true, 3⟩))
def kmain : Anf := .bind 0 9 0 [⟨false, 7⟩] [] [] (.bind 1 6 0 [⟨true, 0⟩, ⟨false, 5⟩] [] [] (.bind 2 2 13 [⟨true, 1⟩] [] [] (.ret ⟨false, 0⟩)))
def kprog : FlatP := ⟨[⟨0, 1, kbody⟩], kmain⟩
theorem know1 : runE kprog [] 99 = ⟨1, 0, [12], 6⟩ := by kernel_rfl
theorem ksmall : SmallF kprog := by
 refine ⟨by decide, ?_, ?_⟩
 · intro g hg
   obtain rfl : g = ⟨0, 1, kbody⟩ := by simpa [kprog] using hg
   simp only [kbody, rngA, rngL, List.mem_cons, List.not_mem_nil, or_false, forall_eq, forall_eq_or_imp, true_and]
   exact ⟨rfl, ⟨rfl, rfl⟩, rfl⟩
 · simp only [kprog, kmain, rngA, rngL, List.mem_cons, List.not_mem_nil, or_false, forall_eq, forall_eq_or_imp, true_and]
   exact ⟨rfl, ⟨rfl, rfl⟩, rfl, rfl⟩
theorem mkvar_any (n : Int) (w : World) : Calls Tryz.prog 15 #[.int .i64 n] w fun e w' => e = .returned (.agg #[.bool true, .int .i64 n]) ∧ Below w.heap.size w w' := by
 go_enter Tryz.func15, Tryz.ntmps15
 go_wp2_with fail
 have hb : Below w.heap.size w (w.alloc (.cells #[.bool true, .int .i64 n] 25)) := (Below.refl _ _).alloc (Nat.le_refl _) _
 exact bodyPost_ret (v := .agg #[.bool true, .int .i64 n]) (by simp [results, Tryz.results15, go_sem]) rfl ⟨rfl, hb⟩
theorem mkint_any (n : Int) (w : World) : Calls Tryz.prog 17 #[.int .i64 n] w fun e w' => e = .returned (.agg #[.bool false, .int .i64 n]) ∧ Below w.heap.size w w' := by
 go_enter Tryz.func17, Tryz.ntmps17
 go_wp2_with fail
 have hb : Below w.heap.size w (w.alloc (.cells #[.bool false, .int .i64 n] 25)) := (Below.refl _ _).alloc (Nat.le_refl _) _
 exact bodyPost_ret (v := .agg #[.bool false, .int .i64 n]) (by simp [results, Tryz.results17, go_sem]) rfl ⟨rfl, hb⟩
theorem mkbind_any (v p : Int) (A : Option Addr) (n c : Nat) (w : World) : Calls Tryz.prog 16 #[.int .i64 v, .int .i64 p, .slice A n c] w fun e w' => e = .returned (.agg #[.int .i64 v, .int .i64 2, .int .i64 p, .slice A n c, .slice none 0 0, .slice none 0 0]) ∧ Below w.heap.size w w' := by
 go_enter Tryz.func16, Tryz.ntmps16
 go_wp2_with fail
 have hb : Below w.heap.size w (w.alloc (.cells #[.int .i64 v, .int .i64 2, .int .i64 p, .slice A n c, .slice none 0 0, .slice none 0 0] 62)) := (Below.refl _ _).alloc (Nat.le_refl _) _
 exact bodyPost_ret (v := .agg #[.int .i64 v, .int .i64 2, .int .i64 p, .slice A n c, .slice none 0 0, .slice none 0 0]) (by simp [results, Tryz.results16, go_sem]) rfl ⟨rfl, hb⟩
theorem heap4 (w : World) (a b c d : Obj) : ((((w.alloc a).alloc b).alloc c).alloc d).heap[w.heap.size + 1 + 1 + 1]? = some d := by
 have := World.alloc_heap_new (((w.alloc a).alloc b).alloc c) d
 rw [World.size_alloc, World.size_alloc, World.size_alloc] at this
 exact this
theorem mkapp_any (v : Int) (x y : Bool) (m n : Int) (w : World) : Calls Tryz.prog 18 #[.int .i64 v, .agg #[.bool x, .int .i64 m], .agg #[.bool y, .int .i64 n]] w fun e w' =>
 ∃ g, e = .returned (.agg #[.int .i64 v, .int .i64 6, .int .i64 0, .slice (some ⟨g, 0, none⟩) 2 2, .slice none 0 0, .slice none 0 0]) ∧ w.heap.size ≤ g ∧ w'.heap[g]? = some (.cells #[.bool x, .int .i64 m, .bool y, .int .i64 n] 25) ∧ Below w.heap.size w w' := by
 go_enter Tryz.func18, Tryz.ntmps18
 go_wp2_with fail
 have hb : Below w.heap.size w ((((w.alloc (.cells #[.bool x, .int .i64 m] 25)).alloc (.cells #[.bool y, .int .i64 n] 25)).alloc (.cells #[.int .i64 v, .int .i64 6, .int .i64 0, .slice (some ⟨w.heap.size + 1 + 1 + 1, 0, none⟩) 2 2, .slice none 0 0, .slice none 0 0] 62)).alloc (.cells #[.bool x, .int .i64 m, .bool y, .int .i64 n] 25)) :=
  ((((Below.refl _ _).alloc (Nat.le_refl _) _).alloc (by simp) _).alloc (by simp; omega) _).alloc (by simp; omega) _
 exact bodyPost_ret (v := .agg #[.int .i64 v, .int .i64 6, .int .i64 0, .slice (some ⟨w.heap.size + 1 + 1 + 1, 0, none⟩) 2 2, .slice none 0 0, .slice none 0 0]) (by simp [results, Tryz.results18, go_sem]) rfl ⟨_, rfl, by omega, heap4 _ _ _ _ _, hb⟩
end Go.Proofs.YtnobggabjpcbfaaGreat
