/-
  The program's evaluator: ceval.Run.
-/
import Derived.Test.YtnolhcdfknjncaaDoorU2
set_option linter.unusedVariables false
set_option linter.unusedSimpArgs false
namespace Go.Proofs.YtnolhcdfknjncaaDoor
open Go.RowKit

/-- what a run's end is -/
def runE (t : Core) (inp : List Int) (f : Int) : PEnd := if rightE t = 0 then endOf (fuelOf f) (runOut t inp f) else ⟨4, 0, [], 0⟩
/-- a run's end in memory -/
def EndIn (B : Nat) (w : World) (pe : PEnd) (e : Ending) (w' : World) : Prop :=
  ∃ A c, e = .returned (.agg #[.int .i64 pe.kind, .int .i64 pe.n, .slice A pe.out.length c, .int .i64 pe.steps]) ∧ IntsIn w'.heap.size w' A pe.out ∧ pe.out.length ≤ c ∧ (∀ a, A = some a → B ≤ a.block) ∧ Below w.heap.size w w'

set_option maxRecDepth 100000 in
set_option maxHeartbeats 2000000 in
theorem run_wrong {B : Nat} {W : World} {t : Core} {v : Array Value} (hin : CoreIn B W t v) (hB : B ≤ W.heap.size) (hg : 0 < B) (ht : TabIn W) (hh : 1 + (t.hgt : Int) ≤ 60000) (inp f : Value) (hr : rightE t ≠ 0) :
    Calls Tryd.prog 9 #[.agg v, inp, f] W (EndIn B W ⟨4, 0, [], 0⟩) := by
  obtain ⟨k0, n0, A2, n2, d2, A3, n3, d3, rfl⟩ := hin.shape
  have hb1 : Below W.heap.size W ((W.alloc (.cells #[.int .i64 k0, .int .i64 n0, .slice A2 n2 d2, .slice A3 n3 d3] 26)).alloc (.cells #[.int .i64 0, .int .i64 0, .slice none 0 0, .int .i64 0] 31)) := ((Below.refl _ _).alloc (Nat.le_refl _) _).alloc (by rw [World.size_alloc]; exact Nat.le_succ _) _
  have HR := Lib.hid (right_any _ (hin.kept (hb1.mono hB)) (Nat.le_trans hB hb1.size) hg (ht.kept (Nat.lt_of_lt_of_le hg hB) hb1) hh)
  have hrr : (rightE t == 0) = false := by simpa using hr
  have HB := Lib.hid hb1
  generalize rightE t = r at *
  clear hin ht hb1
  go_enter Tryd.func9, Tryd.ntmps9
  go_wp2_with fail
  refine HR.out.mono ?_
  rintro e w' ⟨rfl, hb2⟩
  have h31 : w'.heap[W.heap.size + 1]? = some (.cells #[.int .i64 0, .int .i64 0, .slice none 0 0, .int .i64 0] 31 (0, 0)) := by
    refine (hb2.block (W.heap.size + 1) (by simp)).trans ?_
    have := World.alloc_heap_new (W.alloc (.cells #[.int .i64 k0, .int .i64 n0, .slice A2 n2 d2, .slice A3 n3 d3] 26)) (.cells #[.int .i64 0, .int .i64 0, .slice none 0 0, .int .i64 0] 31)
    rw [World.size_alloc] at this
    exact this
  have c0 : w'.cell? ⟨W.heap.size + 1, 0, none⟩ = some (.int .i64 0) := by simp [World.cell?, h31]
  have c1 : w'.cell? ⟨W.heap.size + 1, 1, none⟩ = some (.int .i64 0) := by simp [World.cell?, h31]
  have c2 : w'.cell? ⟨W.heap.size + 1, 2, none⟩ = some (.slice none 0 0) := by simp [World.cell?, h31]
  have c3 : w'.cell? ⟨W.heap.size + 1, 3, none⟩ = some (.int .i64 0) := by simp [World.cell?, h31]
  have fz : ∀ i, w'.frozen? ⟨W.heap.size + 1, i, none⟩ = false := fun i => by simp [World.frozen?, h31]
  have hb3 : Below W.heap.size W w' := HB.out.trans (hb2.mono HB.out.size)
  have HB3 := Lib.hid hb3
  clear hb2 hb3 h31
  go_wp2_with fail
  refine bodyPost_ret (v := .agg #[.int .i64 4, .int .i64 0, .slice none 0 0, .int .i64 0]) (by simp [results, Tryd.results9, go_sem, c0, c1, c2, c3]) rfl ?_
  refine ⟨none, 0, rfl, ⟨by simp, .inl rfl⟩, by simp, (by intro a h; cases h), ?_⟩
  exact (((HB3.out.setCell (p := ⟨_, _, none⟩) (Nat.le_succ _) _).setCell (p := ⟨_, _, none⟩) (Nat.le_succ _) _).setCell (p := ⟨_, _, none⟩) (Nat.le_succ _) _).setCell (p := ⟨_, _, none⟩) (Nat.le_succ _) _

theorem endOf_out (F : Nat) (o : Out) : (endOf F o).out = o.2.out := by
  obtain ⟨r, s⟩ := o
  cases r <;> simp [endOf]
  split <;> rfl
theorem fuelOf_int (f : Int) : ((fuelOf f : Nat) : Int) = min (max f 0) 1000000 := by unfold fuelOf; omega
theorem fuelOf_le (f : Int) : fuelOf f ≤ 1000000 := by unfold fuelOf; omega

/-- a run's record as it is made -/
theorem good_start {B : Nat} {w V : World} {inp : List Int} {F : Nat} (hF : F ≤ 1000000) {Ai : Option Addr} {ci : Nat} (hi : IntsIn B w Ai inp) (hci : inp.length ≤ ci) (hB : B ≤ w.heap.size)
    (hV : Below w.heap.size w V) (hr : V.heap[w.heap.size]? = some (.cells #[.slice Ai inp.length ci, .int .i64 F, .int .i64 0, .int .i64 0, .slice none 0 0, .int .i64 0] 51 (0, 0))) :
    Good w.heap.size B inp F (initSt F) m0 V :=
  ⟨Nat.le_trans hB hV.size, hB, Nat.le_refl _, hF, by simp [initSt], ⟨Ai, ci, by simpa [initSt, m0] using hr, by simpa [initSt] using hi.below (hV.mono hB), by simpa [initSt] using hci⟩,
    ⟨by simp [initSt], .inl ⟨rfl, rfl⟩⟩, rfl, by intro i h; simp [initSt] at h, rfl, by intro i h; simp [initSt] at h, by simp [m0], by simp [m0], by simp [m0, Value.ownBlock], by intro b h; simp [m0] at h, by intro b h; simp [m0] at h, by intro k h; simp [m0] at h⟩

set_option maxRecDepth 100000 in
set_option maxHeartbeats 4000000 in
theorem run_right {B : Nat} {W : World} {t : Core} {v : Array Value} (hin : CoreIn B W t v) (hB : B ≤ W.heap.size) (hg : 0 < B) (ht : TabIn W) (hh : 1 + (t.hgt : Int) ≤ 60000) {inp : List Int} {Ai : Option Addr} {ci : Nat} (hi : IntsIn B W Ai inp) (hci : inp.length ≤ ci) (f : Int) (hr : rightE t = 0) :
    Calls Tryd.prog 9 #[.agg v, .slice Ai inp.length ci, .int .i64 f] W (EndIn B W (endOf (fuelOf f) (runOut t inp f))) := by
  obtain ⟨k0, n0, A2, n2, d2, A3, n3, d3, rfl⟩ := hin.shape
  have hb1 : Below W.heap.size W ((W.alloc (.cells #[.int .i64 k0, .int .i64 n0, .slice A2 n2 d2, .slice A3 n3 d3] 26)).alloc (.cells #[.int .i64 0, .int .i64 0, .slice none 0 0, .int .i64 0] 31)) := ((Below.refl _ _).alloc (Nat.le_refl _) _).alloc (by rw [World.size_alloc]; exact Nat.le_succ _) _
  have HR := Lib.hid (right_any _ (hin.kept (hb1.mono hB)) (Nat.le_trans hB hb1.size) hg (ht.kept (Nat.lt_of_lt_of_le hg hB) hb1) hh)
  have hwt := Lib.hid (wt_of_right hr)
  have HB := Lib.hid hb1
  have HI := Lib.hid hi
  have HIN := Lib.hid hin
  have hlen64 := hi.1
  obtain ⟨L, hL⟩ : ∃ L, inp.length = L := ⟨_, rfl⟩
  have HLL := Lib.hid hL
  rw [hL] at hci hlen64 ⊢
  rw [hr] at HR
  clear hin ht hb1 hi hL
  go_enter Tryd.func9, Tryd.ntmps9
  go_wp2_with fail
  refine HR.out.mono ?_
  rintro e w' ⟨rfl, hb2⟩
  have h30 : w'.heap[W.heap.size]? = some (.cells #[.int .i64 k0, .int .i64 n0, .slice A2 n2 d2, .slice A3 n3 d3] 26 (0, 0)) := by
    refine (hb2.block W.heap.size (by simp; omega)).trans ?_
    refine (((Below.refl _ _).alloc (Nat.le_refl _) _ : Below (W.alloc (.cells #[.int .i64 k0, .int .i64 n0, .slice A2 n2 d2, .slice A3 n3 d3] 26)).heap.size _ _).block W.heap.size (by simp)).trans ?_
    exact World.alloc_heap_new W _
  have h31 : w'.heap[W.heap.size + 1]? = some (.cells #[.int .i64 0, .int .i64 0, .slice none 0 0, .int .i64 0] 31 (0, 0)) := by
    refine (hb2.block (W.heap.size + 1) (by simp)).trans ?_
    have := World.alloc_heap_new (W.alloc (.cells #[.int .i64 k0, .int .i64 n0, .slice A2 n2 d2, .slice A3 n3 d3] 26)) (.cells #[.int .i64 0, .int .i64 0, .slice none 0 0, .int .i64 0] 31)
    rw [World.size_alloc] at this
    exact this
  have hb3 : Below W.heap.size W w' := HB.out.trans (hb2.mono HB.out.size)
  have hsz : W.heap.size + 2 ≤ w'.heap.size := by have := hb2.size; simp at this; omega
  have HB3 := Lib.hid hb3
  have H31 := Lib.hid h31
  have HC := Lib.hid (fun (X : Nat) (FI : Int) (hX : X = (inp.take 4096).length) (hFI : FI = ((fuelOf f : Nat) : Int)) =>
    (show Calls Tryd.prog 24 #[.pointer (some ⟨w'.heap.size, 0, none⟩), .func (.func 25) #[] #[.pointer (some ⟨w'.heap.size + 1, 0, none⟩), .pointer (some ⟨W.heap.size, 0, none⟩)]]
        ((w'.alloc (.cells #[.slice Ai X ci, .int .i64 FI, .int .i64 0, .int .i64 0, .slice none 0 0, .int .i64 0] 51)).alloc (.cells #[.pointer (some ⟨w'.heap.size, 0, none⟩)] 49))
        (WholePost w'.heap.size B ((w'.alloc (.cells #[.slice Ai X ci, .int .i64 FI, .int .i64 0, .int .i64 0, .slice none 0 0, .int .i64 0] 51)).alloc (.cells #[.pointer (some ⟨w'.heap.size, 0, none⟩)] 49)) (endOf (fuelOf f) (runOut t inp f))) from by
      subst hX hFI
      have hV : Below w'.heap.size w' ((w'.alloc (.cells #[.slice Ai (inp.take 4096).length ci, .int .i64 (fuelOf f), .int .i64 0, .int .i64 0, .slice none 0 0, .int .i64 0] 51)).alloc (.cells #[.pointer (some ⟨w'.heap.size, 0, none⟩)] 49)) := ((Below.refl _ _).alloc (Nat.le_refl _) _).alloc (by rw [World.size_alloc]; exact Nat.le_succ _) _
      have hbB := hb3.mono hB
      have hrr : ((w'.alloc (.cells #[.slice Ai (inp.take 4096).length ci, .int .i64 (fuelOf f), .int .i64 0, .int .i64 0, .slice none 0 0, .int .i64 0] 51)).alloc (.cells #[.pointer (some ⟨w'.heap.size, 0, none⟩)] 49)).heap[w'.heap.size]? = some (.cells #[.slice Ai (inp.take 4096).length ci, .int .i64 (fuelOf f), .int .i64 0, .int .i64 0, .slice none 0 0, .int .i64 0] 51 (0, 0)) := by
        refine (((Below.refl _ _).alloc (Nat.le_refl _) _ : Below (w'.alloc (.cells #[.slice Ai (inp.take 4096).length ci, .int .i64 (fuelOf f), .int .i64 0, .int .i64 0, .slice none 0 0, .int .i64 0] 51)).heap.size _ _).block w'.heap.size (by simp)).trans ?_
        exact World.alloc_heap_new w' _
      have hgood := good_start (fuelOf_le f) ((HI.out.take 4096).below hbB) (by have := HLL.out; simp; omega) (Nat.le_trans hB hb3.size) hV hrr
      have h7 : ((w'.alloc (.cells #[.slice Ai (inp.take 4096).length ci, .int .i64 (fuelOf f), .int .i64 0, .int .i64 0, .slice none 0 0, .int .i64 0] 51)).alloc (.cells #[.pointer (some ⟨w'.heap.size, 0, none⟩)] 49)).cell? ⟨w'.heap.size + 1, 0, none⟩ = some (.pointer (some ⟨w'.heap.size, 0, none⟩)) := by
        rw [World.cell?_alloc_at _ _ _ _ (by simp)]; rfl
      have hcc : ∀ i, w'.cell? ⟨W.heap.size, i, none⟩ = (#[Value.int .i64 k0, .int .i64 n0, .slice A2 n2 d2, .slice A3 n3 d3] : Array Value)[i]? := fun i => by simp [World.cell?, h30]
      exact whole_any hgood ((HIN.out.kept hbB).kept (hV.mono (Nat.le_trans hB hb3.size))) hwt.out (Nat.lt_succ_self _) h7 (cell_behind hV (hcc 0)) (cell_behind hV (hcc 1)) (cell_behind hV (hcc 2)) (cell_behind hV (hcc 3))))
  have HE := Lib.hid (fun (X : Nat) (FI : Int) (V' : World) (hP : WholePost w'.heap.size B ((w'.alloc (.cells #[.slice Ai X ci, .int .i64 FI, .int .i64 0, .int .i64 0, .slice none 0 0, .int .i64 0] 51)).alloc (.cells #[.pointer (some ⟨w'.heap.size, 0, none⟩)] 49)) (endOf (fuelOf f) (runOut t inp f)) (.returned (.tuple #[])) V') =>
    (show ∃ A k c, (V'.cell? ⟨w'.heap.size + 1, 0, none⟩ = some (.pointer (some ⟨w'.heap.size, 0, none⟩)) ∧ V'.cell? ⟨w'.heap.size, 2, none⟩ = some (.int .i64 (endOf (fuelOf f) (runOut t inp f)).kind) ∧ V'.cell? ⟨w'.heap.size, 3, none⟩ = some (.int .i64 (endOf (fuelOf f) (runOut t inp f)).n) ∧
        V'.cell? ⟨w'.heap.size, 4, none⟩ = some (.slice A k c) ∧ V'.cell? ⟨w'.heap.size, 5, none⟩ = some (.int .i64 (endOf (fuelOf f) (runOut t inp f)).steps) ∧
        V'.cell? ⟨W.heap.size + 1, 0, none⟩ = some (.int .i64 0) ∧ V'.cell? ⟨W.heap.size + 1, 1, none⟩ = some (.int .i64 0) ∧ V'.cell? ⟨W.heap.size + 1, 2, none⟩ = some (.slice none 0 0) ∧ V'.cell? ⟨W.heap.size + 1, 3, none⟩ = some (.int .i64 0)) ∧
        (∀ i, V'.frozen? ⟨W.heap.size + 1, i, none⟩ = false) ∧
        ∀ V2, V'.heap.size ≤ V2.heap.size → V2.os = V'.os → V2.tape = V'.tape → V2.output = V'.output → (∀ k, k ≠ W.heap.size + 1 → V2.heap[k]? = V'.heap[k]?) →
          EndIn B W (endOf (fuelOf f) (runOut t inp f)) (.returned (.agg #[.int .i64 (endOf (fuelOf f) (runOut t inp f)).kind, .int .i64 (endOf (fuelOf f) (runOut t inp f)).n, .slice A k c, .int .i64 (endOf (fuelOf f) (runOut t inp f)).steps])) V2 from by
      obtain ⟨_, hrest, x0, x1, vo, hrec, hout⟩ := hP
      have hsV : ((w'.alloc (.cells #[.slice Ai X ci, .int .i64 FI, .int .i64 0, .int .i64 0, .slice none 0 0, .int .i64 0] 51)).alloc (.cells #[.pointer (some ⟨w'.heap.size, 0, none⟩)] 49)).heap.size = w'.heap.size + 2 := by simp
      have hV : Below w'.heap.size w' ((w'.alloc (.cells #[.slice Ai X ci, .int .i64 FI, .int .i64 0, .int .i64 0, .slice none 0 0, .int .i64 0] 51)).alloc (.cells #[.pointer (some ⟨w'.heap.size, 0, none⟩)] 49)) := ((Below.refl _ _).alloc (Nat.le_refl _) _).alloc (by rw [World.size_alloc]; exact Nat.le_succ _) _
      have h6 : V'.heap[W.heap.size + 1]? = some (.cells #[.int .i64 0, .int .i64 0, .slice none 0 0, .int .i64 0] 31 (0, 0)) := (hrest.same _ (by rw [hsV]; omega) (by omega)).trans ((hV.block _ (by omega)).trans h31)
      have h7 : V'.cell? ⟨w'.heap.size + 1, 0, none⟩ = some (.pointer (some ⟨w'.heap.size, 0, none⟩)) := by
        refine (cell_of_heap (hrest.same (w'.heap.size + 1) (by rw [hsV]; omega) (by omega)) 0).trans ?_
        rw [World.cell?_alloc_at _ _ _ _ (by simp)]; rfl
      have hoL : (endOf (fuelOf f) (runOut t inp f)).out.length ≤ 1000000 := by
        rw [endOf_out]
        have h1 := (ev_le (inp.take 4096) (fuelOf f + 1) t [] (initSt (fuelOf f))).out
        have h2 := fuelOf_le f
        unfold runOut
        simp [initSt] at h1 ⊢
        omega
      have hvo : ∃ A k c, vo = .slice A k c := ownsRow_shape hout
      obtain ⟨A, k, c, rfl⟩ := hvo
      refine ⟨A, k, c, ⟨h7, by simp [World.cell?, hrec], by simp [World.cell?, hrec], by simp [World.cell?, hrec], by simp [World.cell?, hrec], by simp [World.cell?, h6], by simp [World.cell?, h6], by simp [World.cell?, h6], by simp [World.cell?, h6]⟩, fun i => by simp [World.frozen?, h6], fun V2 e1 e2 e3 e4 e5 => ?_⟩
      have hout2 := ownsRow_same hout (w' := V2) (fun q hq => e5 q (by
        rintro rfl
        rcases hout.2 with ⟨h0, _⟩ | ⟨g, cap, cur, h0, _, hgg, _⟩
        · rw [h0] at hq; simp [Value.ownBlock] at hq
        · rw [h0] at hq; simp [Value.ownBlock] at hq
          subst hq
          have := hgg.symm.trans h6
          simp only [Option.some.injEq, Obj.cells.injEq] at this
          exact absurd this.2.1 (by decide)))
      obtain ⟨A', c', hA, hints, hc⟩ := own_ints hout2 (by omega)
      cases hA
      have hlo : ∀ a, A = some a → B ≤ a.block := fun a ha => by
        subst ha
        exact (hout2.lt a.block rfl).1
      refine ⟨A, c, rfl, hints, hc, hlo, ?_⟩
      have hbV : Below W.heap.size W V' := hb3.trans ⟨(hrest.os.trans hV.os), (hrest.tape.trans hV.tape), (hrest.output.trans hV.output), Nat.le_trans hV.size hrest.size, fun q hq => (hrest.same q (by rw [hsV]; omega) (by omega)).trans (hV.block q (by omega))⟩
      exact ⟨e2.trans hbV.os, e3.trans hbV.tape, e4.trans hbV.output, Nat.le_trans hbV.size e1, fun q hq => (e5 q (by omega)).trans (hbV.block q hq)⟩))
  have hfi := fuelOf_int f
  have HFI := Lib.hid hfi
  have hne7 : w'.heap.size ≠ W.heap.size + 1 := by omega
  clear hb2 hb3 h30 h31 hfi
  generalize endOf (fuelOf f) (runOut t inp f) = pe at *
  go_wp2_with fail
  all_goals
    refine (HC.out _ _ (by have := HLL.out; simp; omega) (by have := HFI.out; omega)).mono ?_
    intro e V' hP
    obtain ⟨rfl, _⟩ := id hP
    obtain ⟨A, k, c, ⟨r7, r2, r3, r4, r5, r60, r61, r62, r63⟩, rfz, hfin⟩ := HE.out _ _ _ hP
    have HFIN := Lib.hid hfin
    clear hP hfin
    go_wp2_with fail
    refine bodyPost_ret (v := .agg #[.int .i64 pe.kind, .int .i64 pe.n, .slice A k c, .int .i64 pe.steps]) (by simp [results, Tryd.results9, go_sem, r60, r61, r62, r63]) rfl ?_
    refine HFIN.out _ (by simp [World.setCell]) rfl rfl rfl (fun q hq => ?_)
    rw [heap_set_ne hq, heap_set_ne hq, heap_set_ne hq, heap_set_ne hq]

theorem run_any {B : Nat} {W : World} {t : Core} {v : Array Value} (hin : CoreIn B W t v) (hB : B ≤ W.heap.size) (hg : 0 < B) (ht : TabIn W) (hh : 1 + (t.hgt : Int) ≤ 60000) {inp : List Int} {Ai : Option Addr} {ci : Nat} (hi : IntsIn B W Ai inp) (hci : inp.length ≤ ci) (f : Int) :
    Calls Tryd.prog 9 #[.agg v, .slice Ai inp.length ci, .int .i64 f] W (EndIn B W (runE t inp f)) := by
  unfold runE
  split
  · exact run_right hin hB hg ht hh hi hci f (by assumption)
  · exact run_wrong hin hB hg ht hh _ _ (by assumption)
end Go.Proofs.YtnolhcdfknjncaaDoor
