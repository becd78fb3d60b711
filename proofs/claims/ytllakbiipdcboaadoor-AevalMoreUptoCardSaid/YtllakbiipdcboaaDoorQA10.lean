/-
  4 texts of this seat in one: PU3 PB0 PB1 PC0.
-/
import Derived.Test.YtllakbiipdcboaaDoorQA9
import Derived.Test.YtllakbiipdcboaaDoorRows
import Derived.Carry
import Derived.ProofKit
import Derived.OpenShut
import Derived.Deep.DeepHandedRow
import Derived.ChangeArms
import Derived.Test.YtllakbiipdcboaaDoorQA2
import Derived.LaidLaws
/-
  The evaluator of terms: aeval.Run, anf.Right being known.
-/
set_option linter.unusedVariables false
set_option linter.unusedSimpArgs false
namespace Go.Proofs.YtllakbiipdcboaaDoor
open Go.RowKit

/-- the contract of anf.Right at a term -/
def RightSays (t : Anf) : Prop := ∀ (B : Nat) (W : World) (v : Array Value), BodyIn B W t v → B ≤ W.heap.size → ShapesIn B W → Calls Tryd.prog 17 #[.agg v] W fun e w' => e = .returned (.int .i64 (rightA t)) ∧ Below W.heap.size W w'
/-- what a run's end is -/
def runE (t : Anf) (inp : List Int) (f : Int) : PEnd := if rightA t = 0 then endF (fuelOf f) (runF ⟨[], t⟩ inp f) else ⟨4, 0, [], 0⟩
/-- a run's end in memory -/
def EndIn (B : Nat) (w : World) (pe : PEnd) (e : Ending) (w' : World) : Prop :=
  ∃ A c, e = .returned (.agg #[.int .i64 pe.kind, .int .i64 pe.n, .slice A pe.out.length c, .int .i64 pe.steps]) ∧ IntsIn w'.heap.size w' A pe.out ∧ pe.out.length ≤ c ∧ (∀ a, A = some a → B ≤ a.block) ∧ Below w.heap.size w w'

set_option maxRecDepth 100000 in
set_option maxHeartbeats 2000000 in
theorem run_wrong {B : Nat} {W : World} {t : Anf} {v : Array Value} (hin : BodyIn B W t v) (hB : B ≤ W.heap.size) (ht : ShapesIn B W) (hrs : RightSays t) (inp f : Value) (hr : rightA t ≠ 0) :
    Calls Tryd.prog 6 #[.agg v, inp, f] W (EndIn B W ⟨4, 0, [], 0⟩) := by
  obtain ⟨A2, n2, d2, k0, n0, rfl⟩ := hin.shape
  have hb1 : Below W.heap.size W ((W.alloc (.cells #[.slice A2 n2 d2, .bool k0, .int .i64 n0] 26)).alloc (.cells #[.int .i64 0, .int .i64 0, .slice none 0 0, .int .i64 0] 32)) := ((Below.refl _ _).alloc (Nat.le_refl _) _).alloc (by rw [World.size_alloc]; exact Nat.le_succ _) _
  have HR := Lib.hid (hrs _ _ _ (hin.kept (hb1.mono hB)) (Nat.le_trans hB hb1.size) (ht.kept (hb1.mono hB)))
  have hrr : (rightA t == 0) = false := by simpa using hr
  have HB := Lib.hid hb1
  generalize rightA t = r at *
  clear hin ht hrs hb1
  go_enter Tryd.func6, Tryd.ntmps6
  go_wp2_with fail
  refine HR.out.mono ?_
  rintro e w' ⟨rfl, hb2⟩
  have h31 : w'.heap[W.heap.size + 1]? = some (.cells #[.int .i64 0, .int .i64 0, .slice none 0 0, .int .i64 0] 32 (0, 0)) := by
    refine (hb2.block (W.heap.size + 1) (by simp)).trans ?_
    have := World.alloc_heap_new (W.alloc (.cells #[.slice A2 n2 d2, .bool k0, .int .i64 n0] 26)) (.cells #[.int .i64 0, .int .i64 0, .slice none 0 0, .int .i64 0] 32)
    rw [World.size_alloc] at this
    exact this
  have c0 : w'.cell? ⟨W.heap.size + 1, 0, none⟩ = some (.int .i64 0) := by simp [World.cell?, h31]
  have c1 : w'.cell? ⟨W.heap.size + 1, 1, none⟩ = some (.int .i64 0) := by simp [World.cell?, h31]
  have c2 : w'.cell? ⟨W.heap.size + 1, 2, none⟩ = some (.slice none 0 0) := by simp [World.cell?, h31]
  have c3 : w'.cell? ⟨W.heap.size + 1, 3, none⟩ = some (.int .i64 0) := by simp [World.cell?, h31]
  have fz : ∀ i, w'.frozen? ⟨W.heap.size + 1, i, none⟩ = false := fun i => by simp [World.frozen?, h31]
  have hb3 : Below W.heap.size W w' := HB.out.trans (hb2.mono HB.out.size)
  have HB3 := Lib.hid hb3
  clear hb2 hb3 h31
  go_wp2_with fail
  refine bodyPost_ret (v := .agg #[.int .i64 4, .int .i64 0, .slice none 0 0, .int .i64 0]) (by simp [results, Tryd.results6, go_sem, c0, c1, c2, c3]) rfl ?_
  refine ⟨none, 0, rfl, ⟨by simp, .inl rfl⟩, by simp, (by intro a h; cases h), ?_⟩
  exact (((HB3.out.setCell (p := ⟨_, _, none⟩) (Nat.le_succ _) _).setCell (p := ⟨_, _, none⟩) (Nat.le_succ _) _).setCell (p := ⟨_, _, none⟩) (Nat.le_succ _) _).setCell (p := ⟨_, _, none⟩) (Nat.le_succ _) _

theorem own_ints {w : World} {base n : Nat} {e : TypeId} {v : Value} {xs : List Int} (h : w.ownsRow base e 1 v n (xs.map (Value.int .i64))) (hb : xs.length * 8 ≤ 140737488351232) :
    ∃ A c, v = .slice A xs.length c ∧ IntsIn w.heap.size w A xs ∧ xs.length ≤ c := by
  have hl : xs.length = n := by have := h.1; simpa using this
  rcases h.2 with ⟨rfl, h0⟩ | ⟨g, cap, cur, rfl, _, hg, hn, _⟩
  · refine ⟨none, 0, by rw [hl, h0], ⟨hb, .inl (List.length_eq_zero_iff.1 (by omega))⟩, by omega⟩
  · refine ⟨some ⟨g, 0, none⟩, cap, by rw [hl], ⟨hb, .inr ⟨g, 0, rfl, (h.lt g rfl).2, fun j hj => ?_⟩⟩, by omega⟩
    have := World.ownsRow.cells h (g := g) rfl j (.int .i64 (nth xs j)) (by simp [nth_eq _ hj, hj])
    have ha : (⟨g, 0, none⟩ : Addr).add j = ⟨g, 0 + j, none⟩ := by unfold Addr.add; split <;> simp_all
    rw [ha] at this
    exact this
theorem ownsRow_same {w w' : World} {base : Nat} {e : TypeId} {size : Nat} {v : Value} {n : Nat} {xs : List Value} (h : w.ownsRow base e size v n xs) (hk : ∀ k, v.ownBlock = some k → w'.heap[k]? = w.heap[k]?) : w'.ownsRow base e size v n xs := by
  refine ⟨h.1, ?_⟩
  rcases h.2 with h0 | ⟨g, cap, cur, rfl, h1, h2, h3⟩
  · exact .inl h0
  · exact .inr ⟨g, cap, cur, rfl, h1, (hk g rfl).trans h2, h3⟩
theorem fuelOf_int (f : Int) : ((fuelOf f : Nat) : Int) = min (max f 0) 1000000 := by unfold fuelOf; omega
theorem fuelOf_le (f : Int) : fuelOf f ≤ 1000000 := by unfold fuelOf; omega

/-- a run's record as it is made -/
theorem good_start {B : Nat} {w V : World} {t : Anf} {inp : List Int} {F : Nat} (hF : F ≤ 1000000) {Ai : Option Addr} {ci : Nat} (hi : IntsIn B w Ai inp) (hci : inp.length ≤ ci) (hB : B ≤ w.heap.size)
    (hV : Below w.heap.size w V) (hr : V.heap[w.heap.size]? = some (.cells #[.slice Ai inp.length ci, .int .i64 F, .int .i64 0, .int .i64 0, .slice none 0 0, .int .i64 0] 55 (0, 0))) :
    Good w.heap.size B ⟨[], t⟩ inp F (initF F) m0 V :=
  ⟨Nat.le_trans hB hV.size, hB, Nat.le_refl _, hF, by simp [initF], ⟨Ai, ci, by simpa [initF, m0] using hr, by simpa [initF] using hi.below (hV.mono hB), by simpa [initF] using hci⟩,
    ⟨by simp [initF], .inl ⟨rfl, rfl⟩⟩, rfl, by intro i h; simp [initF] at h, rfl, by intro i h; simp [initF] at h, by simp [m0], by simp [m0], by simp [m0, Value.ownBlock], by intro b h; simp [m0] at h, by intro b h; simp [m0] at h⟩

set_option maxRecDepth 100000 in
set_option maxHeartbeats 4000000 in
theorem run_right {B : Nat} {W : World} {t : Anf} {v : Array Value} (hin : BodyIn B W t v) (hB : B ≤ W.heap.size) (ht : ShapesIn B W) (hrs : RightSays t) {inp : List Int} {Ai : Option Addr} {ci : Nat} (hi : IntsIn B W Ai inp) (hci : inp.length ≤ ci) (f : Int) (hr : rightA t = 0) :
    Calls Tryd.prog 6 #[.agg v, .slice Ai inp.length ci, .int .i64 f] W (EndIn B W (endF (fuelOf f) (runF ⟨[], t⟩ inp f))) := by
  obtain ⟨A2, n2, d2, k0, n0, rfl⟩ := hin.shape
  have hb1 : Below W.heap.size W ((W.alloc (.cells #[.slice A2 n2 d2, .bool k0, .int .i64 n0] 26)).alloc (.cells #[.int .i64 0, .int .i64 0, .slice none 0 0, .int .i64 0] 32)) := ((Below.refl _ _).alloc (Nat.le_refl _) _).alloc (by rw [World.size_alloc]; exact Nat.le_succ _) _
  have HR := Lib.hid (hrs _ _ _ (hin.kept (hb1.mono hB)) (Nat.le_trans hB hb1.size) (ht.kept (hb1.mono hB)))
  have hwt := Lib.hid (wf_of_rightA hr 0)
  have HB := Lib.hid hb1
  have HI := Lib.hid hi
  have HIN := Lib.hid hin
  have hlen64 := hi.1
  obtain ⟨L, hL⟩ : ∃ L, inp.length = L := ⟨_, rfl⟩
  have HLL := Lib.hid hL
  rw [hL] at hci hlen64 ⊢
  rw [hr] at HR
  clear hin ht hrs hb1 hi hL
  go_enter Tryd.func6, Tryd.ntmps6
  go_wp2_with fail
  refine HR.out.mono ?_
  rintro e w' ⟨rfl, hb2⟩
  have h30 : w'.heap[W.heap.size]? = some (.cells #[.slice A2 n2 d2, .bool k0, .int .i64 n0] 26 (0, 0)) := by
    refine (hb2.block W.heap.size (by simp; omega)).trans ?_
    refine (((Below.refl _ _).alloc (Nat.le_refl _) _ : Below (W.alloc (.cells #[.slice A2 n2 d2, .bool k0, .int .i64 n0] 26)).heap.size _ _).block W.heap.size (by simp)).trans ?_
    exact World.alloc_heap_new W _
  have h31 : w'.heap[W.heap.size + 1]? = some (.cells #[.int .i64 0, .int .i64 0, .slice none 0 0, .int .i64 0] 32 (0, 0)) := by
    refine (hb2.block (W.heap.size + 1) (by simp)).trans ?_
    have := World.alloc_heap_new (W.alloc (.cells #[.slice A2 n2 d2, .bool k0, .int .i64 n0] 26)) (.cells #[.int .i64 0, .int .i64 0, .slice none 0 0, .int .i64 0] 32)
    rw [World.size_alloc] at this
    exact this
  have hb3 : Below W.heap.size W w' := HB.out.trans (hb2.mono HB.out.size)
  have hsz : W.heap.size + 2 ≤ w'.heap.size := by have := hb2.size; simp at this; omega
  have HB3 := Lib.hid hb3
  have H31 := Lib.hid h31
  have HC := Lib.hid (fun (X : Nat) (FI : Int) (hX : X = (inp.take 4096).length) (hFI : FI = ((fuelOf f : Nat) : Int)) =>
    (show Calls Tryd.prog 18 #[.pointer (some ⟨w'.heap.size, 0, none⟩), .func (.func 19) #[] #[.pointer (some ⟨w'.heap.size + 1, 0, none⟩), .pointer (some ⟨W.heap.size, 0, none⟩)]]
        ((w'.alloc (.cells #[.slice Ai X ci, .int .i64 FI, .int .i64 0, .int .i64 0, .slice none 0 0, .int .i64 0] 55)).alloc (.cells #[.pointer (some ⟨w'.heap.size, 0, none⟩)] 53))
        (WholePost w'.heap.size B ((w'.alloc (.cells #[.slice Ai X ci, .int .i64 FI, .int .i64 0, .int .i64 0, .slice none 0 0, .int .i64 0] 55)).alloc (.cells #[.pointer (some ⟨w'.heap.size, 0, none⟩)] 53)) (endF (fuelOf f) (runF ⟨[], t⟩ inp f))) from by
      subst hX hFI
      have hV : Below w'.heap.size w' ((w'.alloc (.cells #[.slice Ai (inp.take 4096).length ci, .int .i64 (fuelOf f), .int .i64 0, .int .i64 0, .slice none 0 0, .int .i64 0] 55)).alloc (.cells #[.pointer (some ⟨w'.heap.size, 0, none⟩)] 53)) := ((Below.refl _ _).alloc (Nat.le_refl _) _).alloc (by rw [World.size_alloc]; exact Nat.le_succ _) _
      have hbB := hb3.mono hB
      have hrr : ((w'.alloc (.cells #[.slice Ai (inp.take 4096).length ci, .int .i64 (fuelOf f), .int .i64 0, .int .i64 0, .slice none 0 0, .int .i64 0] 55)).alloc (.cells #[.pointer (some ⟨w'.heap.size, 0, none⟩)] 53)).heap[w'.heap.size]? = some (.cells #[.slice Ai (inp.take 4096).length ci, .int .i64 (fuelOf f), .int .i64 0, .int .i64 0, .slice none 0 0, .int .i64 0] 55 (0, 0)) := by
        refine (((Below.refl _ _).alloc (Nat.le_refl _) _ : Below (w'.alloc (.cells #[.slice Ai (inp.take 4096).length ci, .int .i64 (fuelOf f), .int .i64 0, .int .i64 0, .slice none 0 0, .int .i64 0] 55)).heap.size _ _).block w'.heap.size (by simp)).trans ?_
        exact World.alloc_heap_new w' _
      have hgood := good_start (t := t) (fuelOf_le f) ((HI.out.take 4096).below hbB) (by have := HLL.out; simp; omega) (Nat.le_trans hB hb3.size) hV hrr
      have h7 : ((w'.alloc (.cells #[.slice Ai (inp.take 4096).length ci, .int .i64 (fuelOf f), .int .i64 0, .int .i64 0, .slice none 0 0, .int .i64 0] 55)).alloc (.cells #[.pointer (some ⟨w'.heap.size, 0, none⟩)] 53)).cell? ⟨w'.heap.size + 1, 0, none⟩ = some (.pointer (some ⟨w'.heap.size, 0, none⟩)) := by
        rw [World.cell?_alloc_at _ _ _ _ (by simp)]; rfl
      have hcc : ∀ i, w'.cell? ⟨W.heap.size, i, none⟩ = (#[Value.slice A2 n2 d2, .bool k0, .int .i64 n0] : Array Value)[i]? := fun i => by simp [World.cell?, h30]
      exact whole_any (p := ⟨[], t⟩) hgood ((HIN.out.kept hbB).kept (hV.mono (Nat.le_trans hB hb3.size))) hwt.out (Nat.lt_succ_self _) h7 (cell_behind hV (hcc 0)) (cell_behind hV (hcc 1)) (cell_behind hV (hcc 2))))
  have HE := Lib.hid (fun (X : Nat) (FI : Int) (V' : World) (hP : WholePost w'.heap.size B ((w'.alloc (.cells #[.slice Ai X ci, .int .i64 FI, .int .i64 0, .int .i64 0, .slice none 0 0, .int .i64 0] 55)).alloc (.cells #[.pointer (some ⟨w'.heap.size, 0, none⟩)] 53)) (endF (fuelOf f) (runF ⟨[], t⟩ inp f)) (.returned (.tuple #[])) V') =>
    (show ∃ A k c, (V'.cell? ⟨w'.heap.size + 1, 0, none⟩ = some (.pointer (some ⟨w'.heap.size, 0, none⟩)) ∧ V'.cell? ⟨w'.heap.size, 2, none⟩ = some (.int .i64 (endF (fuelOf f) (runF ⟨[], t⟩ inp f)).kind) ∧ V'.cell? ⟨w'.heap.size, 3, none⟩ = some (.int .i64 (endF (fuelOf f) (runF ⟨[], t⟩ inp f)).n) ∧
        V'.cell? ⟨w'.heap.size, 4, none⟩ = some (.slice A k c) ∧ V'.cell? ⟨w'.heap.size, 5, none⟩ = some (.int .i64 (endF (fuelOf f) (runF ⟨[], t⟩ inp f)).steps) ∧
        V'.cell? ⟨W.heap.size + 1, 0, none⟩ = some (.int .i64 0) ∧ V'.cell? ⟨W.heap.size + 1, 1, none⟩ = some (.int .i64 0) ∧ V'.cell? ⟨W.heap.size + 1, 2, none⟩ = some (.slice none 0 0) ∧ V'.cell? ⟨W.heap.size + 1, 3, none⟩ = some (.int .i64 0)) ∧
        (∀ i, V'.frozen? ⟨W.heap.size + 1, i, none⟩ = false) ∧
        ∀ V2, V'.heap.size ≤ V2.heap.size → V2.os = V'.os → V2.tape = V'.tape → V2.output = V'.output → (∀ k, k ≠ W.heap.size + 1 → V2.heap[k]? = V'.heap[k]?) →
          EndIn B W (endF (fuelOf f) (runF ⟨[], t⟩ inp f)) (.returned (.agg #[.int .i64 (endF (fuelOf f) (runF ⟨[], t⟩ inp f)).kind, .int .i64 (endF (fuelOf f) (runF ⟨[], t⟩ inp f)).n, .slice A k c, .int .i64 (endF (fuelOf f) (runF ⟨[], t⟩ inp f)).steps])) V2 from by
      obtain ⟨_, hrest, x0, x1, vo, hrec, hout⟩ := hP
      have hsV : ((w'.alloc (.cells #[.slice Ai X ci, .int .i64 FI, .int .i64 0, .int .i64 0, .slice none 0 0, .int .i64 0] 55)).alloc (.cells #[.pointer (some ⟨w'.heap.size, 0, none⟩)] 53)).heap.size = w'.heap.size + 2 := by simp
      have hV : Below w'.heap.size w' ((w'.alloc (.cells #[.slice Ai X ci, .int .i64 FI, .int .i64 0, .int .i64 0, .slice none 0 0, .int .i64 0] 55)).alloc (.cells #[.pointer (some ⟨w'.heap.size, 0, none⟩)] 53)) := ((Below.refl _ _).alloc (Nat.le_refl _) _).alloc (by rw [World.size_alloc]; exact Nat.le_succ _) _
      have h6 : V'.heap[W.heap.size + 1]? = some (.cells #[.int .i64 0, .int .i64 0, .slice none 0 0, .int .i64 0] 32 (0, 0)) := (hrest.same _ (by rw [hsV]; omega) (by omega)).trans ((hV.block _ (by omega)).trans h31)
      have h7 : V'.cell? ⟨w'.heap.size + 1, 0, none⟩ = some (.pointer (some ⟨w'.heap.size, 0, none⟩)) := by
        refine (cell_of_heap (hrest.same (w'.heap.size + 1) (by rw [hsV]; omega) (by omega)) 0).trans ?_
        rw [World.cell?_alloc_at _ _ _ _ (by simp)]; rfl
      have hoL : (endF (fuelOf f) (runF ⟨[], t⟩ inp f)).out.length ≤ 1000000 := by
        rw [endF_out]
        have h1 := (evF_le [] (inp.take 4096) (fuelOf f + 1) t [] (initF (fuelOf f))).out
        have h2 := fuelOf_le f
        unfold runF
        simp [initF] at h1 ⊢
        omega
      have hvo : ∃ A k c, vo = .slice A k c := ownsRow_shape hout
      obtain ⟨A, k, c, rfl⟩ := hvo
      refine ⟨A, k, c, ⟨h7, by simp [World.cell?, hrec], by simp [World.cell?, hrec], by simp [World.cell?, hrec], by simp [World.cell?, hrec], by simp [World.cell?, h6], by simp [World.cell?, h6], by simp [World.cell?, h6], by simp [World.cell?, h6]⟩, fun i => by simp [World.frozen?, h6], fun V2 e1 e2 e3 e4 e5 => ?_⟩
      have hout2 := ownsRow_same hout (w' := V2) (fun q hq => e5 q (by
        rintro rfl
        rcases hout.2 with ⟨h0, _⟩ | ⟨g, cap, cur, h0, _, hgg, _⟩
        · rw [h0] at hq; simp [Value.ownBlock] at hq
        · rw [h0] at hq; simp [Value.ownBlock] at hq
          subst hq
          have := hgg.symm.trans h6
          simp only [Option.some.injEq, Obj.cells.injEq] at this
          exact absurd this.2.1 (by decide)))
      obtain ⟨A', c', hA, hints, hc⟩ := own_ints hout2 (by omega)
      cases hA
      have hlo : ∀ a, A = some a → B ≤ a.block := fun a ha => by
        subst ha
        exact (hout2.lt a.block rfl).1
      refine ⟨A, c, rfl, hints, hc, hlo, ?_⟩
      have hbV : Below W.heap.size W V' := hb3.trans ⟨(hrest.os.trans hV.os), (hrest.tape.trans hV.tape), (hrest.output.trans hV.output), Nat.le_trans hV.size hrest.size, fun q hq => (hrest.same q (by rw [hsV]; omega) (by omega)).trans (hV.block q (by omega))⟩
      exact ⟨e2.trans hbV.os, e3.trans hbV.tape, e4.trans hbV.output, Nat.le_trans hbV.size e1, fun q hq => (e5 q (by omega)).trans (hbV.block q hq)⟩))
  have hfi := fuelOf_int f
  have HFI := Lib.hid hfi
  have hne7 : w'.heap.size ≠ W.heap.size + 1 := by omega
  clear hb2 hb3 h30 h31 hfi
  generalize endF (fuelOf f) (runF ⟨[], t⟩ inp f) = pe at *
  go_wp2_with fail
  all_goals
    refine (HC.out _ _ (by have := HLL.out; simp; omega) (by have := HFI.out; omega)).mono ?_
    intro e V' hP
    obtain ⟨rfl, _⟩ := id hP
    obtain ⟨A, k, c, ⟨r7, r2, r3, r4, r5, r60, r61, r62, r63⟩, rfz, hfin⟩ := HE.out _ _ _ hP
    have HFIN := Lib.hid hfin
    clear hP hfin
    go_wp2_with fail
    refine bodyPost_ret (v := .agg #[.int .i64 pe.kind, .int .i64 pe.n, .slice A k c, .int .i64 pe.steps]) (by simp [results, Tryd.results6, go_sem, r60, r61, r62, r63]) rfl ?_
    refine HFIN.out _ (by simp [World.setCell]) rfl rfl rfl (fun q hq => ?_)
    rw [heap_set_ne hq, heap_set_ne hq, heap_set_ne hq, heap_set_ne hq]

theorem run_any {B : Nat} {W : World} {t : Anf} {v : Array Value} (hin : BodyIn B W t v) (hB : B ≤ W.heap.size) (ht : ShapesIn B W) (hrs : RightSays t) {inp : List Int} {Ai : Option Addr} {ci : Nat} (hi : IntsIn B W Ai inp) (hci : inp.length ≤ ci) (f : Int) :
    Calls Tryd.prog 6 #[.agg v, .slice Ai inp.length ci, .int .i64 f] W (EndIn B W (runE t inp f)) := by
  unfold runE
  split
  · exact run_right hin hB ht hrs hi hci f (by assumption)
  · exact run_wrong hin hB ht hrs _ _ (by assumption)
end Go.Proofs.YtllakbiipdcboaaDoor

/-
  What the claim's reading gives: an argument that reads as a flat program is a flat program in memory, its atoms' numbers 64 bits wide.
-/
set_option linter.unusedVariables false
set_option linter.unusedSimpArgs false
namespace Go.Proofs.YtllakbiipdcboaaDoor
open Go.ChangeShapes Go.WideShapes Go.RowKit Go.Maps

/-! ### how much is read -/
theorem bulk_one {H : Type} (d : DataW H) : 1 ≤ Rows.uptoBulk d := by
  cases d with
  | lit l => cases l <;> simp [Rows.uptoBulk]
  | _ => simp [Rows.uptoBulk]
theorem bulk_len {H : Type} : ∀ l : List (DataW H), l.length ≤ Rows.uptoBulkAll l
  | [] => by simp
  | d :: l => by have := bulk_one d; have := bulk_len l; simp only [Rows.uptoBulkAll, List.length_cons]; omega
theorem bulk_mem {H : Type} {d : DataW H} : ∀ {l : List (DataW H)}, d ∈ l → Rows.uptoBulk d ≤ Rows.uptoBulkAll l
  | x :: l, h => by
    simp only [Rows.uptoBulkAll]
    rcases List.mem_cons.1 h with rfl | h
    · omega
    · have := bulk_mem h; omega

section
variable {H : Type} {enc : TypeId × Value → H} {W : World}

theorem cellsInt : Tryd.prog.cellsOf 3 = 1 := by kernel_rfl
theorem cellsBool : Tryd.prog.cellsOf 4 = 1 := by kernel_rfl
theorem cellsKind : Tryd.prog.cellsOf 39 = 1 := by kernel_rfl
theorem cellsInts : Tryd.prog.cellsOf 27 = 1 := by kernel_rfl
theorem cellsAtom : Tryd.prog.cellsOf 24 = 2 := by kernel_rfl
theorem cellsAtoms : Tryd.prog.cellsOf 40 = 1 := by kernel_rfl
theorem cellsBind : Tryd.prog.cellsOf 45 = 6 := by kernel_rfl
theorem cellsBinds : Tryd.prog.cellsOf 22 = 1 := by kernel_rfl
theorem cellsRhs : Tryd.prog.cellsOf 43 = 5 := by kernel_rfl
theorem cellsAnf : Tryd.prog.cellsOf 26 = 3 := by kernel_rfl
theorem cellsAnfs : Tryd.prog.cellsOf 41 = 1 := by kernel_rfl

set_option maxRecDepth 100000 in
/-- ints that are read lie in memory -/
theorem ints_of_trod {n : Nat} {c : Value} {x : DataW H × List MemPlace} (h : DataW.trod enc Tryd.prog W 0 (fun _ => true) true n 27 [c] = some x) (hb : Rows.uptoBulk x.1 ≤ 1048576) :
    ∃ (A : Option Addr) (cap : Nat) (ks : List Int), c = .slice A ks.length cap ∧ IntsIn W.heap.size W A ks ∧ ks.length ≤ cap ∧ ks.length ≤ 1048576 := by
  rcases open_ints Tryd.underlying27 Tryd.underlying3 cellsInt h with ⟨hc, rfl⟩ | ⟨a, len, cap, zs, hc, _, hlc, _, hzl, hx, hcell, hwf⟩
  · obtain rfl : c = .slice none 0 0 := by simpa using hc
    exact ⟨none, 0, [], rfl, ⟨by simp, .inl rfl⟩, by simp, by simp⟩
  · obtain rfl : c = .slice (some a) len cap := by simpa using hc
    simp only [if_true] at hzl
    have hlen : (zs.take len).length = len := by simp; omega
    have hbl : len ≤ 1048576 := by
      rw [hx] at hb
      have h1 := bulk_len (lits (H := H) .i64 (zs.take len))
      simp only [Rows.uptoBulk] at hb
      have h2 : (lits (H := H) .i64 (zs.take len)).length = len := by simp [lits]; omega
      omega
    refine ⟨some a, cap, zs.take len, by rw [hlen], ⟨by rw [hlen]; omega, ?_⟩, by rw [hlen]; exact hlc, by rw [hlen]; exact hbl⟩
    by_cases h0 : len = 0
    · left; simp [h0]
    · right
      have c0 := hcell 0 (by omega)
      obtain ⟨b, o, spot⟩ := a
      have hspot : spot = none := by simpa [Addr.add] using World.cell?_spot c0
      subst hspot
      have hadd : ∀ i, (⟨b, o, none⟩ : Addr).add i = ⟨b, o + i, none⟩ := fun i => by unfold Addr.add; split <;> simp_all
      rw [hadd] at c0
      refine ⟨b, o, rfl, World.block_lt_of_cell? _ _ c0, fun j hj => ?_⟩
      rw [hlen] at hj
      have := hcell j (by omega)
      rw [hadd] at this
      rw [this, nth_take _ hj]
      simp [nth, List.getD]

set_option maxRecDepth 100000 in
/-- a slice that is read: each element's cells, and what its own reading says -/
theorem rows_of_trod {T e : TypeId} {c n : Nat} {v : Value} {x : DataW H × List MemPlace} {Q : List Value → Prop} (ht : Tryd.prog.underlying T = some (.slice e)) (hc : Tryd.prog.cellsOf e = c) (hc0 : 0 < c)
    (h : DataW.trod enc Tryd.prog W 0 (fun _ => true) true n T [v] = some x) (hb : Rows.uptoBulk x.1 ≤ 1048576)
    (hQ : ∀ (q : Nat) (cs : List Value) (y : DataW H × List MemPlace), q < n → DataW.trod enc Tryd.prog W 0 (fun _ => true) true q e cs = some y → Rows.uptoBulk y.1 ≤ 1048576 → Q cs) :
    ∃ (A : Option Addr) (len cap b o : Nat), v = .slice A len cap ∧ len ≤ cap ∧ len ≤ 1048576 ∧ (0 < len → A = some ⟨b, o, none⟩ ∧ b < W.heap.size) ∧
      ∀ i, i < len → ∃ cs : List Value, Q cs ∧ ∀ k, k < c → W.cell? ⟨b, o + i * c + k, none⟩ = cs[k]? := by
  rcases DataW.trod_slice ht h with ⟨he, hx3⟩ | ⟨ad, len, cap, elems, rest, q, hn, he, hx3, _, hlc, _, hlen, hel, _⟩
  · obtain rfl : v = .slice none 0 0 := by simpa using he
    exact ⟨none, 0, 0, 0, 0, rfl, Nat.le_refl _, by omega, by omega, by omega⟩
  · obtain rfl : v = .slice (some ad) len cap := by simpa using he
    rw [hx3] at hb
    simp only [Rows.uptoBulk] at hb
    have hbl : len ≤ 1048576 := by
      have := bulk_len (elems.map (·.1))
      simp [hlen] at this
      omega
    rw [hc] at hel
    have each : ∀ i, i < len → ∃ cs : List Value, Q cs ∧ ∀ k, k < c → W.cell? ((ad.add (i * c)).add k) = cs[k]? := by
      intro i hi
      have h1 := hel i hi
      rw [List.getElem?_eq_getElem (by omega), Option.bind_eq_some_iff] at h1
      obtain ⟨cs', hcs, hy⟩ := h1
      have hmem : Rows.uptoBulk (elems[i]'(by omega)).1 ≤ Rows.uptoBulkAll (elems.map (·.1)) := bulk_mem (List.mem_map.2 ⟨_, List.getElem_mem _, rfl⟩)
      obtain ⟨_, hcl, hcell⟩ := World.cells?_some hcs
      exact ⟨cs', hQ q cs' _ (by omega) hy (by omega), fun k hk => hcell k hk⟩
    by_cases h0 : len = 0
    · subst h0
      exact ⟨some ad, 0, cap, 0, 0, rfl, Nat.zero_le _, by omega, by omega, by omega⟩
    · obtain ⟨bb, oo, spot⟩ := ad
      have hsome : ∃ u, W.cell? (((⟨bb, oo, spot⟩ : Addr).add (0 * c)).add 0) = some u := by
        have h1 := hel 0 (by omega)
        rw [List.getElem?_eq_getElem (by omega), Option.bind_eq_some_iff] at h1
        obtain ⟨cs', hcs, hy⟩ := h1
        obtain ⟨hcl, _, hcell⟩ := World.cells?_some hcs
        have h2 := hcell 0 hc0
        rw [List.getElem?_eq_getElem (by omega)] at h2
        exact ⟨_, h2⟩
      obtain ⟨u, hu⟩ := hsome
      have hspot : spot = none := by simpa [Addr.add] using World.cell?_spot hu
      subst hspot
      have hadd : ∀ o i, (⟨bb, o, none⟩ : Addr).add i = ⟨bb, o + i, none⟩ := fun o i => by unfold Addr.add; split <;> simp_all
      simp only [hadd] at each hu
      exact ⟨_, len, cap, bb, oo, rfl, hlc, hbl, fun _ => ⟨rfl, World.block_lt_of_cell? _ _ hu⟩, each⟩

def In64 (n : Int) : Prop := (Lit.int .i64 n).wf = true
set_option maxRecDepth 100000 in
theorem atom_of_trod {n : Nat} {cs : List Value} {x : DataW H × List MemPlace} (h : DataW.trod enc Tryd.prog W 0 (fun _ => true) true n 24 cs = some x) : ∃ a : Atm, cs = [.bool a.v, .int .i64 a.n] ∧ In64 a.n := by
  obtain ⟨xs, m, rfl, rfl, hl, hxl, hf⟩ := DataW.trod_struct Tryd.underlying24 h
  rw [cellsAtom] at hl
  match cs, hl with
  | [a, b], _ =>
    have f0 := hf 0 _ rfl
    have f1 := hf 1 _ rfl
    match xs, hxl with
    | [x0, x1], _ =>
      change DataW.trod enc Tryd.prog W 0 (fun _ => true) true m 4 (([a, b].drop 0).take (Tryd.prog.cellsOf 4)) = some x0 at f0
      rw [cellsBool] at f0
      change DataW.trod enc Tryd.prog W 0 (fun _ => true) true m 3 (([a, b].drop 1).take (Tryd.prog.cellsOf 3)) = some x1 at f1
      rw [cellsInt] at f1
      simp only [List.drop_succ_cons, List.drop_zero, List.take_succ_cons, List.take_zero] at f0 f1
      obtain ⟨v, hv, _⟩ := DataW.trod_bool Tryd.underlying4 f0
      obtain ⟨k, hk, _, hw⟩ := DataW.trod_int Tryd.underlying3 f1
      obtain rfl : a = .bool v := by simpa using hv
      obtain rfl : b = .int .i64 k := by simpa using hk
      exact ⟨⟨v, k⟩, rfl, hw⟩
set_option maxRecDepth 100000 in
/-- atoms that are read lie in memory -/
theorem atoms_of_trod {n : Nat} {v : Value} {x : DataW H × List MemPlace} (h : DataW.trod enc Tryd.prog W 0 (fun _ => true) true n 40 [v] = some x) (hb : Rows.uptoBulk x.1 ≤ 1048576) :
    ∃ (A : Option Addr) (cap : Nat) (ats : List Atm), v = .slice A ats.length cap ∧ AtomsIn W.heap.size W A ats ∧ ats.length ≤ cap ∧ ∀ a ∈ ats, In64 a.n := by
  obtain ⟨A, len, cap, b, o, rfl, hlc, hl, hA, hel⟩ := rows_of_trod (Q := fun cs => ∃ a : Atm, cs = [.bool a.v, .int .i64 a.n] ∧ In64 a.n) Tryd.underlying40 cellsAtom (by omega) h hb (fun q cs y _ hy _ => atom_of_trod hy)
  have each : ∀ i : Nat, ∃ a : Atm, i < len → W.cell? ⟨b, o + i * 2, none⟩ = some (.bool a.v) ∧ W.cell? ⟨b, o + i * 2 + 1, none⟩ = some (.int .i64 a.n) ∧ In64 a.n := fun i => by
    by_cases hi : i < len
    · obtain ⟨cs, ⟨a, rfl, ha⟩, hc⟩ := hel i hi
      exact ⟨a, fun _ => ⟨hc 0 (by omega), hc 1 (by omega), ha⟩⟩
    · exact ⟨default, fun h => absurd h hi⟩
  obtain ⟨P, hP⟩ := Classical.axiomOfChoice each
  have hlen : ((List.range len).map P).length = len := by simp
  refine ⟨A, cap, (List.range len).map P, by rw [hlen], ⟨by rw [hlen]; omega, ?_⟩, by rw [hlen]; exact hlc, fun a ha => ?_⟩
  · by_cases h0 : len = 0
    · left; simp [h0]
    · right
      obtain ⟨rfl, hbl⟩ := hA (by omega)
      refine ⟨b, o, rfl, hbl, fun j hj => ?_⟩
      rw [hlen] at hj
      have hg : ((List.range len).map P)[j]? = some (P j) := by simp [hj]
      rw [hg]
      exact ⟨(hP j hj).1, (hP j hj).2.1⟩
  · obtain ⟨i, hi, rfl⟩ := List.mem_map.1 ha
    exact (hP i (by simpa using hi)).2.2
end
end Go.Proofs.YtllakbiipdcboaaDoor

/-
  What the claim's reading gives, its second part: bodies and flat programs.
-/
set_option linter.unusedVariables false
set_option linter.unusedSimpArgs false
namespace Go.Proofs.YtllakbiipdcboaaDoor
open Go.ChangeShapes Go.WideShapes Go.RowKit Go.Maps

mutual
/-- atoms' numbers are 64 bits wide -/
def rngA : Anf → Prop
  | .ret a => In64 a.n
  | .bind _ _ _ ats _ bl r => (∀ a ∈ ats, In64 a.n) ∧ rngL bl ∧ rngA r
def rngL : List Anf → Prop
  | [] => True
  | c :: cs => rngA c ∧ rngL cs
end
theorem rngL_of : ∀ {l : List Anf}, (∀ c ∈ l, rngA c) → rngL l
  | [], _ => by unfold rngL; trivial
  | c :: cs, h => by
    unfold rngL
    exact ⟨h c (by simp), rngL_of (fun d hd => h d (by simp [hd]))⟩
/-- a bind's six cells, and what they lead to -/
def BindQ (B : Nat) (w : World) (cs : List Value) : Prop :=
  ∃ (x k n : Int) (ats : List Atm) (ks : List Int) (bl : List Anf) (Aa Ak Al : Option Addr) (ca ck cl bb oo : Nat) (AB : Nat → Option Addr) (CB BB OO : Nat → Nat),
    cs = [.int .i64 x, .int .i64 k, .int .i64 n, .slice Aa ats.length ca, .slice Ak ks.length ck, .slice Al bl.length cl] ∧
    AtomsIn B w Aa ats ∧ ats.length ≤ ca ∧ IntsIn B w Ak ks ∧ ks.length ≤ ck ∧ bl.length ≤ cl ∧ bl.length * 40 ≤ 140737488351232 ∧ (0 < bl.length → Al = some ⟨bb, oo, none⟩ ∧ bb < B) ∧
    (∀ j (h : j < bl.length), w.cell? ⟨bb, oo + j * 3, none⟩ = some (.slice (AB j) bl[j].len (CB j))) ∧ (∀ j (h : j < bl.length), w.cell? ⟨bb, oo + j * 3 + 1, none⟩ = some (.bool bl[j].last.v)) ∧ (∀ j (h : j < bl.length), w.cell? ⟨bb, oo + j * 3 + 2, none⟩ = some (.int .i64 bl[j].last.n)) ∧
    (∀ j (h : j < bl.length), bl[j].len ≤ CB j ∧ bl[j].len * 96 ≤ 140737488351232 ∧ (0 < bl[j].len → AB j = some ⟨BB j, OO j, none⟩)) ∧ (∀ j (h : j < bl.length), AnfAt B w (BB j) (OO j) 0 bl[j]) ∧
    (∀ a ∈ ats, In64 a.n) ∧ rngL bl
theorem chain_of {B : Nat} {w : World} {b o len : Nat} (a : Atm) (ha : In64 a.n) (hbB : 0 < len → b < B) (hel : ∀ i, i < len → ∃ cs : List Value, BindQ B w cs ∧ ∀ k, k < 6 → w.cell? ⟨b, o + i * 6 + k, none⟩ = cs[k]?) :
    ∀ d i, i + d = len → ∃ t : Anf, AnfAt B w b o i t ∧ t.len = d ∧ t.last = a ∧ rngA t := by
  intro d
  induction d with
  | zero => intro i _; exact ⟨.ret a, .ret _ _ _ _, rfl, rfl, ha⟩
  | succ d ih =>
    intro i hi
    obtain ⟨t, h1, h2, h3, h4⟩ := ih (i + 1) (by omega)
    obtain ⟨cs, ⟨x, k, n, ats, ks, bl, Aa, Ak, Al, ca, ck, cl, bb, oo, AB, CB, BB, OO, rfl, q1, q2, q3, q4, q5, q6, q7, q8, q9, q10, q11, q12, q13, q14⟩, hc⟩ := hel i (by omega)
    refine ⟨.bind x k n ats ks bl t, .bind (hbB (by omega)) (hc 0 (by omega)) (hc 1 (by omega)) (hc 2 (by omega)) (hc 3 (by omega)) (hc 4 (by omega)) (hc 5 (by omega)) q1 q2 q3 q4 q5 q6 q7 q8 q9 q10 q11 q12 h1, by simp [Anf.len, h2], by simp [Anf.last, h3], ?_⟩
    unfold rngA
    exact ⟨q13, q14, h4⟩

section
variable {H : Type} {enc : TypeId × Value → H} {W : World}
/-- a body's reading -/
def AnfQ (W : World) (cs : List Value) : Prop := ∃ (t : Anf) (v0 v1 v2 : Value), cs = [v0, v1, v2] ∧ BodyIn W.heap.size W t #[v0, v1, v2] ∧ rngA t

set_option maxRecDepth 100000 in
theorem rhs_of_trod {n : Nat} {cs : List Value} {x : DataW H × List MemPlace} (h : DataW.trod enc Tryd.prog W 0 (fun _ => true) true n 43 cs = some x) (hb : Rows.uptoBulk x.1 ≤ 1048576)
    (ih : ∀ (q : Nat) (cs : List Value) (y : DataW H × List MemPlace), q < n → DataW.trod enc Tryd.prog W 0 (fun _ => true) true q 26 cs = some y → Rows.uptoBulk y.1 ≤ 1048576 → AnfQ W cs) (k : Int) :
    BindQ W.heap.size W (.int .i64 k :: cs) := by
  obtain ⟨xs, m, rfl, rfl, hl, hxl, hf⟩ := DataW.trod_struct Tryd.underlying43 h
  rw [cellsRhs] at hl
  match cs, hl with
  | [a, b, c, d, e], _ =>
    have f0 := hf 0 _ rfl
    have f1 := hf 1 _ rfl
    have f2 := hf 2 _ rfl
    have f3 := hf 3 _ rfl
    have f4 := hf 4 _ rfl
    match xs, hxl with
    | [x0, x1, x2, x3, x4], _ =>
      change DataW.trod enc Tryd.prog W 0 (fun _ => true) true m 39 (([a, b, c, d, e].drop 0).take (Tryd.prog.cellsOf 39)) = some x0 at f0
      rw [cellsKind] at f0
      change DataW.trod enc Tryd.prog W 0 (fun _ => true) true m 3 (([a, b, c, d, e].drop 1).take (Tryd.prog.cellsOf 3)) = some x1 at f1
      rw [cellsInt] at f1
      change DataW.trod enc Tryd.prog W 0 (fun _ => true) true m 40 (([a, b, c, d, e].drop 2).take (Tryd.prog.cellsOf 40)) = some x2 at f2
      rw [cellsAtoms] at f2
      change DataW.trod enc Tryd.prog W 0 (fun _ => true) true m 27 (([a, b, c, d, e].drop 3).take (Tryd.prog.cellsOf 27)) = some x3 at f3
      rw [cellsInts] at f3
      change DataW.trod enc Tryd.prog W 0 (fun _ => true) true m 41 (([a, b, c, d, e].drop 4).take (Tryd.prog.cellsOf 41)) = some x4 at f4
      rw [cellsAnfs] at f4
      simp only [List.drop_succ_cons, List.drop_zero, List.take_succ_cons, List.take_zero] at f0 f1 f2 f3 f4
      simp only [List.map_cons, List.map_nil, Rows.uptoBulk, Rows.uptoBulkAll] at hb
      obtain ⟨kk, hk, _, _⟩ := DataW.trod_int Tryd.underlying39 f0
      obtain ⟨nn, hn, _, _⟩ := DataW.trod_int Tryd.underlying3 f1
      obtain rfl : a = .int .i64 kk := by simpa using hk
      obtain rfl : b = .int .i64 nn := by simpa using hn
      obtain ⟨Aa, ca, ats, rfl, q1, q2, q13⟩ := atoms_of_trod f2 (by omega)
      obtain ⟨Ak, ck, ks, rfl, q3, q4, _⟩ := ints_of_trod f3 (by omega)
      obtain ⟨Al, len, cl, bb, oo, rfl, hlc, hll, hA, hel⟩ := rows_of_trod (Q := AnfQ W) Tryd.underlying41 cellsAnf (by omega) f4 (by omega) (fun q cs y hq hy hby => ih q cs y (by omega) hy hby)
      have each : ∀ i : Nat, ∃ p : Anf × Option Addr × Nat × Nat × Nat, i < len → W.cell? ⟨bb, oo + i * 3, none⟩ = some (.slice p.2.1 p.1.len p.2.2.1) ∧ W.cell? ⟨bb, oo + i * 3 + 1, none⟩ = some (.bool p.1.last.v) ∧ W.cell? ⟨bb, oo + i * 3 + 2, none⟩ = some (.int .i64 p.1.last.n) ∧
          (p.1.len ≤ p.2.2.1 ∧ p.1.len * 96 ≤ 140737488351232 ∧ (0 < p.1.len → p.2.1 = some ⟨p.2.2.2.1, p.2.2.2.2, none⟩)) ∧ AnfAt W.heap.size W p.2.2.2.1 p.2.2.2.2 0 p.1 ∧ rngA p.1 := fun i => by
        by_cases hi : i < len
        · obtain ⟨cs, ⟨t, v0, v1, v2, rfl, ⟨A, c, b, o, hv, h2, h3, h4, h5⟩, hr⟩, hc⟩ := hel i hi
          simp only [Array.mk.injEq, List.cons.injEq, and_true] at hv
          obtain ⟨rfl, rfl, rfl⟩ := hv
          exact ⟨(t, A, c, b, o), fun _ => ⟨hc 0 (by omega), hc 1 (by omega), hc 2 (by omega), ⟨h2, h3, h4⟩, h5, hr⟩⟩
        · exact ⟨default, fun h => absurd h hi⟩
      obtain ⟨P, hP⟩ := Classical.axiomOfChoice each
      have hlen : ((List.range len).map fun i => (P i).1).length = len := by simp
      have hget : ∀ j (h : j < ((List.range len).map fun i => (P i).1).length), ((List.range len).map fun i => (P i).1)[j] = (P j).1 := fun j h => by simp
      refine ⟨k, kk, nn, ats, ks, (List.range len).map fun i => (P i).1, Aa, Ak, Al, ca, ck, cl, bb, oo, fun j => (P j).2.1, fun j => (P j).2.2.1, fun j => (P j).2.2.2.1, fun j => (P j).2.2.2.2, by rw [hlen], q1, q2, q3, q4, by rw [hlen]; exact hlc, by rw [hlen]; omega, by rw [hlen]; exact hA, ?_, ?_, ?_, ?_, ?_, q13, ?_⟩
      · intro j h; rw [hget j h]; exact (hP j (by rwa [hlen] at h)).1
      · intro j h; rw [hget j h]; exact (hP j (by rwa [hlen] at h)).2.1
      · intro j h; rw [hget j h]; exact (hP j (by rwa [hlen] at h)).2.2.1
      · intro j h; rw [hget j h]; exact (hP j (by rwa [hlen] at h)).2.2.2.1
      · intro j h; rw [hget j h]; exact (hP j (by rwa [hlen] at h)).2.2.2.2.1
      · refine rngL_of (fun c hc => ?_)
        obtain ⟨i, hi, rfl⟩ := List.mem_map.1 hc
        exact (hP i (by simpa using hi)).2.2.2.2.2

set_option maxRecDepth 100000 in
theorem bind_of_trod {n : Nat} {cs : List Value} {x : DataW H × List MemPlace} (h : DataW.trod enc Tryd.prog W 0 (fun _ => true) true n 45 cs = some x) (hb : Rows.uptoBulk x.1 ≤ 1048576)
    (ih : ∀ (q : Nat) (cs : List Value) (y : DataW H × List MemPlace), q < n → DataW.trod enc Tryd.prog W 0 (fun _ => true) true q 26 cs = some y → Rows.uptoBulk y.1 ≤ 1048576 → AnfQ W cs) :
    BindQ W.heap.size W cs := by
  obtain ⟨xs, m, rfl, rfl, hl, hxl, hf⟩ := DataW.trod_struct Tryd.underlying45 h
  rw [cellsBind] at hl
  match cs, hl with
  | [z, a, b, c, d, e], _ =>
    have f0 := hf 0 _ rfl
    have f1 := hf 1 _ rfl
    match xs, hxl with
    | [x0, x1], _ =>
      change DataW.trod enc Tryd.prog W 0 (fun _ => true) true m 3 (([z, a, b, c, d, e].drop 0).take (Tryd.prog.cellsOf 3)) = some x0 at f0
      rw [cellsInt] at f0
      change DataW.trod enc Tryd.prog W 0 (fun _ => true) true m 43 (([z, a, b, c, d, e].drop 1).take (Tryd.prog.cellsOf 43)) = some x1 at f1
      rw [cellsRhs] at f1
      simp only [List.drop_succ_cons, List.drop_zero, List.take_succ_cons, List.take_zero] at f0 f1
      simp only [List.map_cons, List.map_nil, Rows.uptoBulk, Rows.uptoBulkAll] at hb
      obtain ⟨k, hk, _, _⟩ := DataW.trod_int Tryd.underlying3 f0
      obtain rfl : z = .int .i64 k := by simpa using hk
      exact rhs_of_trod f1 (by omega) (fun q cs y hq => ih q cs y (by omega)) k

set_option maxRecDepth 100000 in
theorem anf_of_trod : ∀ (n : Nat) (cs : List Value) (x : DataW H × List MemPlace), DataW.trod enc Tryd.prog W 0 (fun _ => true) true n 26 cs = some x → Rows.uptoBulk x.1 ≤ 1048576 → AnfQ W cs := by
  intro n
  induction n using Nat.strongRecOn with
  | _ n ih =>
    intro cs x h hb
    obtain ⟨xs, m, rfl, rfl, hl, hxl, hf⟩ := DataW.trod_struct Tryd.underlying26 h
    rw [cellsAnf] at hl
    match cs, hl with
    | [a, b, c], _ =>
      have f0 := hf 0 _ rfl
      have f1 := hf 1 _ rfl
      match xs, hxl with
      | [x0, x1], _ =>
        change DataW.trod enc Tryd.prog W 0 (fun _ => true) true m 22 (([a, b, c].drop 0).take (Tryd.prog.cellsOf 22)) = some x0 at f0
        rw [cellsBinds] at f0
        change DataW.trod enc Tryd.prog W 0 (fun _ => true) true m 24 (([a, b, c].drop 1).take (Tryd.prog.cellsOf 24)) = some x1 at f1
        rw [cellsAtom] at f1
        simp only [List.drop_succ_cons, List.drop_zero, List.take_succ_cons, List.take_zero] at f0 f1
        simp only [List.map_cons, List.map_nil, Rows.uptoBulk, Rows.uptoBulkAll] at hb
        obtain ⟨at_, hat, hin⟩ := atom_of_trod f1
        obtain ⟨rfl, rfl⟩ : b = .bool at_.v ∧ c = .int .i64 at_.n := by simpa using hat
        obtain ⟨A, len, cap, bb, oo, rfl, hlc, hll, hA, hel⟩ := rows_of_trod (Q := BindQ W.heap.size W) Tryd.underlying22 cellsBind (by omega) f0 (by omega) (fun q cs y hq hy hby => bind_of_trod hy hby (fun q2 cs2 y2 hq2 => ih q2 (by omega) cs2 y2))
        obtain ⟨t, h1, h2, h3, h4⟩ := chain_of at_ hin (fun h => (hA h).2) hel len 0 (by omega)
        exact ⟨t, _, _, _, rfl, ⟨A, cap, bb, oo, by rw [h2, h3], by omega, by omega, fun h => (hA (by omega)).1, h1⟩, h4⟩

set_option maxRecDepth 100000 in
/-- a term that is read lies in memory -/
theorem open_anf {r : Reach} {b0 : Nat} {v : Value} {d : DataW H} {ps : List MemPlace} (hval : Value.okWide Tryd.prog W r b0 26 v) (hd : DataW.Trod enc Tryd.prog W 0 (fun _ => true) true 26 v d ps) (hb : Rows.uptoBulk d ≤ 1048576) :
    ∃ (t : Anf) (e0 e1 e2 : Value), v = .agg #[e0, e1, e2] ∧ BodyIn W.heap.size W t #[e0, e1, e2] ∧ rngA t := by
  obtain ⟨cs, rfl, _⟩ := okWide_struct Tryd.underlying26 hval
  obtain ⟨fuel, hf⟩ := hd
  obtain ⟨t, v0, v1, v2, hcs, hin, hh⟩ := anf_of_trod _ _ _ hf hb
  obtain rfl : cs = #[v0, v1, v2] := by
    have : cs.toList = [v0, v1, v2] := by simpa [Value.cells] using hcs
    cases cs; simp_all
  exact ⟨t, _, _, _, rfl, hin, hh⟩
set_option maxRecDepth 100000 in
theorem open_intsV {r : Reach} {b0 : Nat} {v : Value} {d : DataW H} {ps : List MemPlace} (hval : Value.okWide Tryd.prog W r b0 27 v) (hd : DataW.Trod enc Tryd.prog W 0 (fun _ => true) true 27 v d ps) (hb : Rows.uptoBulk d ≤ 1048576) :
    ∃ (A : Option Addr) (cap : Nat) (ks : List Int), v = .slice A ks.length cap ∧ IntsIn W.heap.size W A ks ∧ ks.length ≤ cap ∧ ks.length ≤ 1048576 := by
  obtain ⟨a, len, cap, rfl⟩ := okWide_slice Tryd.underlying27 hval
  obtain ⟨fuel, hf⟩ := hd
  exact ints_of_trod (c := .slice a len cap) (by simpa [Value.cells] using hf) hb
end
theorem bound {H : Type} {l : List (DataW H)} (hk : Rows.uptoSmall H l = true) : Rows.uptoBulkAll l ≤ 1048576 := by
  simpa [Rows.uptoSmall] using hk
set_option maxRecDepth 100000 in
theorem own : ownKnob Tryd.prog.godebug = none := by kernel_rfl
end Go.Proofs.YtllakbiipdcboaaDoor

/-
  What the claims' frames share: what the listed table holds.
-/
set_option linter.unusedVariables false
set_option linter.unusedSimpArgs false
namespace Go.Proofs.YtllakbiipdcboaaDoor
open Go.ChangeShapes Go.WideShapes Go.RowKit

theorem gShapes : Tryd.prog.globalNamed "camlet/anf.shapes" = some 0 := by kernel_rfl
theorem gShapesType : (Tryd.prog.globals[0]?).map (·.type) = some 106 := by kernel_rfl
theorem cellsShape : Tryd.prog.cellsOf 105 = 3 := by kernel_rfl
theorem cellsStr : Tryd.prog.cellsOf 9 = 1 := by kernel_rfl
set_option maxRecDepth 100000 in
theorem shape_of_trod {W : World} {n : Nat} {cs : List Value} {x : DataW Unit × List MemPlace} (h : DataW.trod (fun _ => ()) Tryd.prog W 0 (fun _ => true) false n 105 cs = some x) : ∃ (s : ByteArray) (a b : Int), cs = [.string s, .int .i64 a, .int .i64 b] ∧ x.1 = .agg [.lit (.string s.data.toList), .lit (.int .i64 a), .lit (.int .i64 b)] := by
  obtain ⟨xs, m, rfl, rfl, hl, hxl, hf⟩ := DataW.trod_struct Tryd.underlying105 h
  rw [cellsShape] at hl
  match cs, hl with
  | [c0, c1, c2], _ =>
    have f0 := hf 0 _ rfl
    have f1 := hf 1 _ rfl
    have f2 := hf 2 _ rfl
    match xs, hxl with
    | [x0, x1, x2], _ =>
      change DataW.trod (fun _ => ()) Tryd.prog W 0 (fun _ => true) false m 9 (([c0, c1, c2].drop 0).take (Tryd.prog.cellsOf 9)) = some x0 at f0
      rw [cellsStr] at f0
      change DataW.trod (fun _ => ()) Tryd.prog W 0 (fun _ => true) false m 3 (([c0, c1, c2].drop 1).take (Tryd.prog.cellsOf 3)) = some x1 at f1
      change DataW.trod (fun _ => ()) Tryd.prog W 0 (fun _ => true) false m 3 (([c0, c1, c2].drop 2).take (Tryd.prog.cellsOf 3)) = some x2 at f2
      rw [cellsInt] at f1 f2
      simp only [List.drop_succ_cons, List.drop_zero, List.take_succ_cons, List.take_zero] at f0 f1 f2
      obtain ⟨s, hs, rfl, _⟩ := DataW.trod_string Tryd.underlying9 f0
      obtain ⟨a, ha, rfl, _⟩ := DataW.trod_int Tryd.underlying3 f1
      obtain ⟨b, hb, rfl, _⟩ := DataW.trod_int Tryd.underlying3 f2
      obtain rfl : c0 = .string s := by simpa using hs
      obtain rfl : c1 = .int .i64 a := by simpa using ha
      obtain rfl : c2 = .int .i64 b := by simpa using hb
      exact ⟨s, a, b, rfl, rfl⟩
def shapesD : List (DataW Unit) := match (Rows.laid_camlet_anf_shapes : DataW Unit) with | .agg l => l | _ => []
theorem shapesD_eq : (Rows.laid_camlet_anf_shapes : DataW Unit) = .agg shapesD := rfl
set_option maxRecDepth 100000 in
theorem shape_at {W : World} (h : laidMetH Tryd.prog [("camlet/anf.shapes", Rows.laid_camlet_anf_shapes)] W) (i : Nat) (hi : i < 9) : ∃ (s : ByteArray) (a b : Int), W.cell? ⟨0, i * 3, none⟩ = some (.string s) ∧ W.cell? ⟨0, i * 3 + 1, none⟩ = some (.int .i64 a) ∧ W.cell? ⟨0, i * 3 + 2, none⟩ = some (.int .i64 b) ∧ shapesD[i]? = some (.agg [.lit (.string s.data.toList), .lit (.int .i64 a), .lit (.int .i64 b)]) := by
  have h' : laidMet Tryd.prog [("camlet/anf.shapes", Rows.laid_camlet_anf_shapes)] W := h
  obtain ⟨ps, ⟨g', t', cs, fuel, p, q, hg', ht', hvar, hd, _, _⟩, _⟩ := h'
  obtain rfl := Option.some.inj (gShapes.symm.trans hg')
  obtain rfl := Option.some.inj (gShapesType.symm.trans ht')
  rw [shapesD_eq] at hd
  obtain ⟨xs, m, rfl, hx, hl, hxl, hel⟩ := DataW.trod_array Tryd.underlying106 hd
  have hx1 : shapesD = xs.map (·.1) := by
    have := congrArg Prod.fst hx
    simpa using this
  obtain ⟨y, hy⟩ : ∃ y, xs[i]? = some y := ⟨xs[i]'(by omega), List.getElem?_eq_getElem (by omega)⟩
  have he := hel i hi
  rw [hy, cellsShape] at he
  obtain ⟨s, a, b, hc, hd2⟩ := shape_of_trod he
  have hget : ∀ k, k < 3 → cs.toList[i * 3 + k]? = ([Value.string s, .int .i64 a, .int .i64 b] : List Value)[k]? := fun k hk => by
    rw [← hc, List.getElem?_take, if_pos hk, List.getElem?_drop]
  refine ⟨s, a, b, ?_, ?_, ?_, ?_⟩
  · rw [World.var?_cell gShapes hvar]; have := hget 0 (by decide); simpa using this
  · rw [World.var?_cell gShapes hvar]; have := hget 1 (by decide); simpa using this
  · rw [World.var?_cell gShapes hvar]; have := hget 2 (by decide); simpa using this
  · rw [hx1, List.getElem?_map, hy, ← hd2]; rfl
set_option maxRecDepth 100000 in
theorem ready_of_laid {W : World} (h : laidMetH Tryd.prog [("camlet/anf.shapes", Rows.laid_camlet_anf_shapes)] W) : ShapesIn W.heap.size W := by
  have hall : ∀ i, i < 9 → ∃ (s : ByteArray), W.cell? ⟨0, i * 3, none⟩ = some (.string s) ∧ W.cell? ⟨0, i * 3 + 1, none⟩ = some (.int .i64 (shapesL[i]?.getD default).1) ∧ W.cell? ⟨0, i * 3 + 2, none⟩ = some (.int .i64 (shapesL[i]?.getD default).2) := fun i hi => by
    obtain ⟨s, a, b, h0, h1, h2, h3⟩ := shape_at h i hi
    refine ⟨s, h0, ?_⟩
    have hab : a = (shapesL[i]?.getD default).1 ∧ b = (shapesL[i]?.getD default).2 := by
      have hc : i = 0 ∨ i = 1 ∨ i = 2 ∨ i = 3 ∨ i = 4 ∨ i = 5 ∨ i = 6 ∨ i = 7 ∨ i = 8 := by omega
      rcases hc with rfl | rfl | rfl | rfl | rfl | rfl | rfl | rfl | rfl
      all_goals
        simp only [shapesD, Rows.laid_camlet_anf_shapes, List.getElem?_cons_zero, List.getElem?_cons_succ, Option.some.injEq, DataW.agg.injEq, List.cons.injEq, DataW.lit.injEq, Lit.int.injEq, true_and, and_true] at h3
        obtain ⟨-, e1, e2⟩ := h3
        exact ⟨by rw [← e1]; rfl, by rw [← e2]; rfl⟩
    rw [h1, h2, hab.1, hab.2]
    exact ⟨rfl, rfl⟩
  refine ⟨?_, fun i hi => ?_, fun i hi => (hall i hi).choose_spec.2.1, fun i hi => (hall i hi).choose_spec.2.2⟩
  · obtain ⟨s, h0, _⟩ := hall 0 (by decide)
    exact World.block_lt_of_cell? _ _ h0
  · obtain ⟨s, h0, _⟩ := hall i hi
    exact ⟨s, h0⟩
end Go.Proofs.YtllakbiipdcboaaDoor
