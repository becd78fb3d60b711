/-
  Few; terms that a law makes.
-/
import Derived.Test.YtnolhcdfknjncaaDoorL4
set_option linter.unusedVariables false
set_option linter.unusedSimpArgs false
namespace Go.Proofs.YtnolhcdfknjncaaDoor
open Go.RowKit

def fewB (t : Core) (inp : List Int) : Bool := decide (nodesE t < 400 ∧ inp.length ≤ 60)

set_option maxRecDepth 100000 in
set_option maxHeartbeats 2000000 in
theorem few_any {t : Core} {v : Array Value} (W : World) (hin : CoreIn W.heap.size W t v) (hh : t.hgt ≤ 1048576) (inp : List Int) (Ai : Option Addr) (ci : Nat) :
    Calls Tryd.prog 7 #[.agg v, .slice Ai inp.length ci] W (BoolBelow (fewB t inp) W) := by
  obtain ⟨k0, n0, A2, n2, d2, A3, n3, d3, rfl⟩ := hin.shape
  have hb0 : Below W.heap.size W (W.alloc (.cells #[.int .i64 k0, .int .i64 n0, .slice A2 n2 d2, .slice A3 n3 d3] 26)) := (Below.refl _ _).alloc (Nat.le_refl _) _
  have HC := Lib.hid (nodes_any hin _ (Stay.of_below hb0) hb0.size hh)
  have HB := Lib.hid hb0
  have HF := Lib.hid (show fewB t inp = decide (nodesE t < 400 ∧ inp.length ≤ 60) from rfl)
  clear hin hb0
  generalize nodesE t = nt at *
  generalize inp.length = L at *
  by_cases h1 : nt < 400
  · have h1' : (nt : Int) < 400 := by omega
    go_enter Tryd.func7, Tryd.ntmps7
    go_wp2_with (go_at_call 20; refine HC.out.mono ?_; rintro e w' ⟨rfl, hb⟩)
    go_ret
    exact ⟨ret_bool (by rw [HF.out]; simp [h1]; omega), HB.out.trans (hb.mono HB.out.size)⟩
  · have h1' : ¬ (nt : Int) < 400 := by omega
    go_enter Tryd.func7, Tryd.ntmps7
    go_wp2_with (go_at_call 20; refine HC.out.mono ?_; rintro e w' ⟨rfl, hb⟩)
    go_ret
    exact ⟨ret_bool (by rw [HF.out]; simp [h1]), HB.out.trans (hb.mono HB.out.size)⟩

/-! ### terms that are made -/
theorem ints_nil (B : Nat) (w : World) : IntsIn B w none [] := ⟨by simp, .inl rfl⟩
theorem CoreIn.leaf (B : Nat) (w : World) (k n : Int) : CoreIn B w (.mk k n [] []) #[.int .i64 k, .int .i64 n, .slice none 0 0, .slice none 0 0] :=
  CoreIn.mk (b := 0) (o := 0) (G0 := fun _ => .nilIface) (G1 := fun _ => .nilIface) (G2 := fun _ => .nilIface) (G3 := fun _ => .nilIface) (ints_nil B w) (Nat.le_refl _) (Nat.le_refl _) (by simp) (by simp) (by simp) (by simp) (by simp) (by simp) (by intro i h; simp at h)
theorem CoreIn.one {B : Nat} {w : World} (k n : Int) {c : Core} {x0 x1 x2 x3 : Value} (hc : CoreIn B w c #[x0, x1, x2, x3]) {b : Nat} (hb : b < B) {T : TypeId} {fr : Nat × Nat} (hh : w.heap[b]? = some (.cells #[x0, x1, x2, x3] T fr)) :
    CoreIn B w (.mk k n [] [c]) #[.int .i64 k, .int .i64 n, .slice none 0 0, .slice (some ⟨b, 0, none⟩) 1 1] :=
  CoreIn.mk (cs := [c]) (b := b) (o := 0) (G0 := fun _ => x0) (G1 := fun _ => x1) (G2 := fun _ => x2) (G3 := fun _ => x3) (ints_nil B w) (Nat.le_refl _) (Nat.le_refl _) (by simp) (fun _ => ⟨rfl, hb⟩)
    (by intro i h; obtain rfl : i = 0 := by simpa using h
        simp [World.cell?, hh]) (by intro i h; obtain rfl : i = 0 := by simpa using h
                                    simp [World.cell?, hh]) (by intro i h; obtain rfl : i = 0 := by simpa using h
                                                                simp [World.cell?, hh]) (by intro i h; obtain rfl : i = 0 := by simpa using h
                                                                                            simp [World.cell?, hh]) (by intro i h; obtain rfl : i = 0 := by simpa using h
                                                                                                                        exact hc)
theorem CoreIn.two {B : Nat} {w : World} (k n : Int) {c d : Core} {x0 x1 x2 x3 y0 y1 y2 y3 : Value} (hc : CoreIn B w c #[x0, x1, x2, x3]) (hd : CoreIn B w d #[y0, y1, y2, y3]) {b : Nat} (hb : b < B) {T : TypeId} {fr : Nat × Nat} (hh : w.heap[b]? = some (.cells #[x0, x1, x2, x3, y0, y1, y2, y3] T fr)) :
    CoreIn B w (.mk k n [] [c, d]) #[.int .i64 k, .int .i64 n, .slice none 0 0, .slice (some ⟨b, 0, none⟩) 2 2] := by
  refine CoreIn.mk (cs := [c, d]) (b := b) (o := 0) (G0 := fun i => if i = 0 then x0 else y0) (G1 := fun i => if i = 0 then x1 else y1) (G2 := fun i => if i = 0 then x2 else y2) (G3 := fun i => if i = 0 then x3 else y3) (ints_nil B w) (Nat.le_refl _) (Nat.le_refl _) (by simp) (fun _ => ⟨rfl, hb⟩) ?_ ?_ ?_ ?_ ?_
  all_goals
    intro i h
    have hi : i = 0 ∨ i = 1 := by simp at h; omega
    rcases hi with rfl | rfl
    all_goals first
      | exact hc
      | exact hd
      | (simp [World.cell?, hh]; done)

theorem heap3 (w : World) (a b c : Obj) : (((w.alloc a).alloc b).alloc c).heap[w.heap.size + 1 + 1]? = some c := by
  have := World.alloc_heap_new ((w.alloc a).alloc b) c
  rw [World.size_alloc, World.size_alloc] at this
  exact this
theorem heap4 (w : World) (a b c d : Obj) : ((((w.alloc a).alloc b).alloc c).alloc d).heap[w.heap.size + 1 + 1 + 1]? = some d := by
  have := World.alloc_heap_new (((w.alloc a).alloc b).alloc c) d
  rw [World.size_alloc, World.size_alloc, World.size_alloc] at this
  exact this
/-- a term is handed back -/
def TermPost (t : Core) (w : World) (e : Ending) (w' : World) : Prop := ∃ c0 c1 c2 c3, e = .returned (.agg #[c0, c1, c2, c3]) ∧ CoreIn w'.heap.size w' t #[c0, c1, c2, c3] ∧ Below w.heap.size w w'
theorem CoreIn.later {w w' : World} {t : Core} {v : Array Value} (h : CoreIn w.heap.size w t v) (hb : Below w.heap.size w w') : CoreIn w'.heap.size w' t v := (h.kept hb).mono hb.size

set_option maxRecDepth 100000 in
set_option maxHeartbeats 1000000 in
theorem lprim_any {p : Int} {cs : List Core} {A : Option Addr} {n c : Nat} (w : World) (hin : CoreIn w.heap.size w (.mk 10 p [] cs) #[.int .i64 10, .int .i64 p, .slice none 0 0, .slice A n c]) :
    Calls Tryd.prog 21 #[.int .i64 p, .slice A n c] w (TermPost (.mk 10 p [] cs) w) := by
  have HI := Lib.hid hin
  clear hin
  go_enter Tryd.func21, Tryd.ntmps21
  go_wp2_with fail
  have hb : Below w.heap.size w (w.alloc (.cells #[.int .i64 10, .int .i64 p, .slice none 0 0, .slice A n c] 26)) := (Below.refl _ _).alloc (Nat.le_refl _) _
  exact bodyPost_ret (v := .agg #[.int .i64 10, .int .i64 p, .slice none 0 0, .slice A n c]) (by simp [results, Tryd.results21, go_sem]) rfl ⟨_, _, _, _, rfl, HI.out.later hb, hb⟩

set_option maxRecDepth 100000 in
set_option maxHeartbeats 1000000 in
theorem lfn_any (p : Int) {t : Core} {c0 c1 c2 c3 : Value} (w : World) (hin : CoreIn w.heap.size w t #[c0, c1, c2, c3]) :
    Calls Tryd.prog 17 #[.int .i64 p, .agg #[c0, c1, c2, c3]] w (TermPost (.mk 3 p [] [t]) w) := by
  obtain ⟨k0, n0, A2, n2, d2, A3, n3, d3, hsh⟩ := hin.shape
  have HI := Lib.hid hin
  clear hin
  simp only [Array.mk.injEq, List.cons.injEq, and_true] at hsh
  obtain ⟨rfl, rfl, rfl, rfl⟩ := hsh
  go_enter Tryd.func17, Tryd.ntmps17
  go_wp2_with fail
  have hb : Below w.heap.size w (((w.alloc (.cells #[.int .i64 k0, .int .i64 n0, .slice A2 n2 d2, .slice A3 n3 d3] 26)).alloc (.cells #[.int .i64 3, .int .i64 p, .slice none 0 0, .slice (some ⟨w.heap.size + 1 + 1, 0, none⟩) 1 1] 26)).alloc (.cells #[.int .i64 k0, .int .i64 n0, .slice A2 n2 d2, .slice A3 n3 d3] 26)) :=
    (((Below.refl _ _).alloc (Nat.le_refl _) _).alloc (by simp) _).alloc (by simp; omega) _
  exact bodyPost_ret (v := .agg #[.int .i64 3, .int .i64 p, .slice none 0 0, .slice (some ⟨w.heap.size + 1 + 1, 0, none⟩) 1 1]) (by simp [results, Tryd.results17, go_sem]) rfl ⟨_, _, _, _, rfl, CoreIn.one 3 p (HI.out.later hb) (by simp) (heap3 _ _ _ _), hb⟩

set_option maxRecDepth 100000 in
set_option maxHeartbeats 1000000 in
theorem llet_any (x : Int) {t u : Core} {c0 c1 c2 c3 e0 e1 e2 e3 : Value} (w : World) (hin : CoreIn w.heap.size w t #[c0, c1, c2, c3]) (hin2 : CoreIn w.heap.size w u #[e0, e1, e2, e3]) :
    Calls Tryd.prog 18 #[.int .i64 x, .agg #[c0, c1, c2, c3], .agg #[e0, e1, e2, e3]] w (TermPost (.mk 5 x [] [t, u]) w) := by
  obtain ⟨k0, n0, A2, n2, d2, A3, n3, d3, hsh⟩ := hin.shape
  obtain ⟨k0', n0', A2', n2', d2', A3', n3', d3', hsh'⟩ := hin2.shape
  have HI := Lib.hid hin
  have HI2 := Lib.hid hin2
  clear hin hin2
  simp only [Array.mk.injEq, List.cons.injEq, and_true] at hsh hsh'
  obtain ⟨rfl, rfl, rfl, rfl⟩ := hsh
  obtain ⟨rfl, rfl, rfl, rfl⟩ := hsh'
  go_enter Tryd.func18, Tryd.ntmps18
  go_wp2_with fail
  have hb : Below w.heap.size w ((((w.alloc (.cells #[.int .i64 k0, .int .i64 n0, .slice A2 n2 d2, .slice A3 n3 d3] 26)).alloc (.cells #[.int .i64 k0', .int .i64 n0', .slice A2' n2' d2', .slice A3' n3' d3'] 26)).alloc (.cells #[.int .i64 5, .int .i64 x, .slice none 0 0, .slice (some ⟨w.heap.size + 1 + 1 + 1, 0, none⟩) 2 2] 26)).alloc (.cells #[.int .i64 k0, .int .i64 n0, .slice A2 n2 d2, .slice A3 n3 d3, .int .i64 k0', .int .i64 n0', .slice A2' n2' d2', .slice A3' n3' d3'] 26)) :=
    ((((Below.refl _ _).alloc (Nat.le_refl _) _).alloc (by simp) _).alloc (by simp; omega) _).alloc (by simp; omega) _
  exact bodyPost_ret (v := .agg #[.int .i64 5, .int .i64 x, .slice none 0 0, .slice (some ⟨w.heap.size + 1 + 1 + 1, 0, none⟩) 2 2]) (by simp [results, Tryd.results18, go_sem]) rfl ⟨_, _, _, _, rfl, CoreIn.two 5 x (HI.out.later hb) (HI2.out.later hb) (by simp) (heap4 _ _ _ _ _), hb⟩

theorem know1 : runE (.mk 5 0 [] [.mk 10 13 [] [.mk 2 7 [] []], .mk 1 1 [] []]) [] 99 = ⟨4, 0, [7], 4⟩ := by kernel_rfl
theorem know2 : runE (.mk 10 16 [] [.mk 3 0 [] [.mk 10 15 [] [.mk 2 7 [] []]], .mk 3 1 [] [.mk 10 13 [] [.mk 1 1 [] []]]]) [] 99 = ⟨1, 0, [7], 7⟩ := by kernel_rfl

/-- what a run of the program needs besides -/
def Ready (w : World) : Prop := TabIn w ∧ 0 < w.heap.size
theorem Ready.below {w w' : World} (h : Ready w) (hb : Below w.heap.size w w') : Ready w' := ⟨h.1.kept h.2 hb, Nat.lt_of_lt_of_le h.2 hb.size⟩
/-- a run in one word -/
def RunPost (pe : PEnd) (w : World) (e : Ending) (w' : World) : Prop := ∃ v A c, v = .agg #[.int .i64 pe.kind, .int .i64 pe.n, .slice A pe.out.length c, .int .i64 pe.steps] ∧ e = .returned v ∧ EndV w' pe v ∧ Below w.heap.size w w' ∧ (∀ a, A = some a → w.heap.size ≤ a.block)
theorem run_ready {w : World} (hr : Ready w) {t : Core} {v : Array Value} (hin : CoreIn w.heap.size w t v) (hh : t.hgt ≤ 50000) {inp : List Int} {Ai : Option Addr} {ci : Nat} (hi : IntsIn w.heap.size w Ai inp) (hci : inp.length ≤ ci) (f : Int) :
    Calls Tryd.prog 9 #[.agg v, .slice Ai inp.length ci, .int .i64 f] w (RunPost (runE t inp f) w) := by
  refine (run_any hin (Nat.le_refl _) hr.2 hr.1 (by omega) hi hci f).mono fun e w' ⟨A, c, h1, h2, h3, h5, h4⟩ => ⟨_, A, c, rfl, h1, ⟨A, c, rfl, h2⟩, h4, h5⟩

theorem ints_seven {V : World} {b : Nat} (h : V.cell? ⟨b, 0, none⟩ = some (.int .i64 7)) : IntsIn V.heap.size V (some ⟨b, 0, none⟩) [7] := by
  refine ⟨by simp, .inr ⟨b, 0, rfl, World.block_lt_of_cell? _ _ h, fun j hj => ?_⟩⟩
  obtain rfl : j = 0 := by simpa using hj
  simpa [nth] using h

set_option maxRecDepth 100000 in
set_option maxHeartbeats 4000000 in
theorem knows_any (w : World) (hr : Ready w) : Calls Tryd.prog 8 #[] w (BoolBelow true w) := by
  go_enter Tryd.func8, Tryd.ntmps8
  go_wp2_with fail
  have hb1 : Below w.heap.size w ((w.alloc (.cells #[.int .i64 2, .int .i64 7, .slice none 0 0, .slice none 0 0] 26)).alloc (.cells #[.int .i64 2, .int .i64 7, .slice none 0 0, .slice none 0 0] 26)) := ((Below.refl _ _).alloc (Nat.le_refl _) _).alloc (by simp) _
  have h1 : ((w.alloc (.cells #[.int .i64 2, .int .i64 7, .slice none 0 0, .slice none 0 0] 26)).alloc (.cells #[.int .i64 2, .int .i64 7, .slice none 0 0, .slice none 0 0] 26)).heap[w.heap.size + 1]? = some (.cells #[.int .i64 2, .int .i64 7, .slice none 0 0, .slice none 0 0] 26) := by
    have := World.alloc_heap_new (w.alloc (.cells #[.int .i64 2, .int .i64 7, .slice none 0 0, .slice none 0 0] 26)) (.cells #[.int .i64 2, .int .i64 7, .slice none 0 0, .slice none 0 0] 26)
    rw [World.size_alloc] at this
    exact this
  have h0 : ((w.alloc (.cells #[.int .i64 2, .int .i64 7, .slice none 0 0, .slice none 0 0] 26)).alloc (.cells #[.int .i64 2, .int .i64 7, .slice none 0 0, .slice none 0 0] 26)).heap[w.heap.size]? = some (.cells #[.int .i64 2, .int .i64 7, .slice none 0 0, .slice none 0 0] 26) :=
    (((Below.refl _ _).alloc (Nat.le_refl _) _ : Below (w.alloc (.cells #[.int .i64 2, .int .i64 7, .slice none 0 0, .slice none 0 0] 26)).heap.size _ _).block w.heap.size (by simp)).trans (World.alloc_heap_new w _)
  have hr1 := hr.below hb1
  have hsz1 : w.heap.size + 1 < ((w.alloc (.cells #[.int .i64 2, .int .i64 7, .slice none 0 0, .slice none 0 0] 26)).alloc (.cells #[.int .i64 2, .int .i64 7, .slice none 0 0, .slice none 0 0] 26)).heap.size := by simp
  generalize (w.alloc (.cells #[.int .i64 2, .int .i64 7, .slice none 0 0, .slice none 0 0] 26)).alloc (.cells #[.int .i64 2, .int .i64 7, .slice none 0 0, .slice none 0 0] 26) = w1 at *
  refine (lprim_any w1 (CoreIn.one 10 13 (CoreIn.leaf _ w1 2 7) hsz1 h1)).mono ?_
  rintro e w2 ⟨p0, p1, p2, p3, rfl, hp, hb2⟩
  go_wp2_with fail
  refine (llet_any 0 w2 hp (CoreIn.leaf _ w2 1 1)).mono ?_
  rintro e w3 ⟨q0, q1, q2, q3, rfl, hq, hb3⟩
  have hr3 := (hr1.below hb2).below hb3
  have hR1 := run_ready hr3 hq (by decide) (inp := []) (Ai := none) (ci := 0) (ints_nil _ _) (Nat.le_refl _) 99
  rw [know1] at hR1
  have h03 : w3.heap[w.heap.size]? = some (.cells #[.int .i64 2, .int .i64 7, .slice none 0 0, .slice none 0 0] 26) := (hb3.block _ (by have := hb2.size; omega)).trans ((hb2.block _ (by omega)).trans h0)
  go_wp2_with fail
  refine hR1.mono ?_
  rintro e w4 ⟨v, A, c, rfl, rfl, hE1, hb4, _⟩
  have h04 : w4.heap[w.heap.size]? = some (.cells #[.int .i64 2, .int .i64 7, .slice none 0 0, .slice none 0 0] 26) := (hb4.block _ (by have := hb2.size; have := hb3.size; omega)).trans h03
  have hbw4 : Below w.heap.size w w4 := hb1.trans ((hb2.mono (by omega)).trans ((hb3.mono (by have := hb2.size; omega)).trans (hb4.mono (by have := hb2.size; have := hb3.size; omega))))
  have hr4 := hr3.below hb4
  have s4 : w.heap.size < w4.heap.size := by have := hb2.size; have := hb3.size; have := hb4.size; omega
  clear hR1 h03 hr3 hq hb2 hb3 hb4 hp hr1 h1 h0 hb1 hsz1
  have k0 : w4.cell? ⟨w.heap.size, 0, none⟩ = some (.int .i64 2) := by simp [World.cell?, h04]
  have k1 : w4.cell? ⟨w.heap.size, 1, none⟩ = some (.int .i64 7) := by simp [World.cell?, h04]
  have k2 : w4.cell? ⟨w.heap.size, 2, none⟩ = some (.slice none 0 0) := by simp [World.cell?, h04]
  have k3 : w4.cell? ⟨w.heap.size, 3, none⟩ = some (.slice none 0 0) := by simp [World.cell?, h04]
  simp only [] at *
  obtain ⟨A', c', hAeq, hi1⟩ := hE1
  simp only [Value.agg.injEq, Array.mk.injEq, List.cons.injEq, Value.slice.injEq, true_and, and_true] at hAeq
  obtain ⟨rfl, rfl⟩ := hAeq
  go_wp2_with fail
  have hb5 : Below w4.heap.size w4 ((w4.alloc (.cells #[.int .i64 4, .int .i64 0, .slice A 1 c, .int .i64 4] 31)).alloc (.cells #[.int .i64 2, .int .i64 7, .slice none 0 0, .slice none 0 0] 26)) := ((Below.refl _ _).alloc (Nat.le_refl _) _).alloc (by simp) _
  have h51 : ((w4.alloc (.cells #[.int .i64 4, .int .i64 0, .slice A 1 c, .int .i64 4] 31)).alloc (.cells #[.int .i64 2, .int .i64 7, .slice none 0 0, .slice none 0 0] 26)).heap[w4.heap.size + 1]? = some (.cells #[.int .i64 2, .int .i64 7, .slice none 0 0, .slice none 0 0] 26) := by
    have := World.alloc_heap_new (w4.alloc (.cells #[.int .i64 4, .int .i64 0, .slice A 1 c, .int .i64 4] 31)) (.cells #[.int .i64 2, .int .i64 7, .slice none 0 0, .slice none 0 0] 26)
    rw [World.size_alloc] at this
    exact this
  have h50 : ((w4.alloc (.cells #[.int .i64 4, .int .i64 0, .slice A 1 c, .int .i64 4] 31)).alloc (.cells #[.int .i64 2, .int .i64 7, .slice none 0 0, .slice none 0 0] 26)).heap[w4.heap.size]? = some (.cells #[.int .i64 4, .int .i64 0, .slice A 1 c, .int .i64 4] 31) :=
    (((Below.refl _ _).alloc (Nat.le_refl _) _ : Below (w4.alloc (.cells #[.int .i64 4, .int .i64 0, .slice A 1 c, .int .i64 4] 31)).heap.size _ _).block w4.heap.size (by simp)).trans (World.alloc_heap_new w4 _)
  have hsz5 : w4.heap.size + 1 < ((w4.alloc (.cells #[.int .i64 4, .int .i64 0, .slice A 1 c, .int .i64 4] 31)).alloc (.cells #[.int .i64 2, .int .i64 7, .slice none 0 0, .slice none 0 0] 26)).heap.size := by simp
  generalize (w4.alloc (.cells #[.int .i64 4, .int .i64 0, .slice A 1 c, .int .i64 4] 31)).alloc (.cells #[.int .i64 2, .int .i64 7, .slice none 0 0, .slice none 0 0] 26) = w5 at *
  refine (lprim_any w5 (CoreIn.one 10 15 (CoreIn.leaf _ w5 2 7) hsz5 h51)).mono ?_
  rintro e w6 ⟨a0, a1, a2, a3, rfl, ha, hb6⟩
  go_wp2_with fail
  refine (lfn_any 0 w6 ha).mono ?_
  rintro e w7 ⟨f0, f1, f2, f3, rfl, hf, hb7⟩
  obtain ⟨fk, fn, fA2, fn2, fd2, fA3, fn3, fd3, hfs⟩ := hf.shape
  simp only [Array.mk.injEq, List.cons.injEq, and_true] at hfs
  obtain ⟨rfl, rfl, rfl, rfl⟩ := hfs
  go_wp2_with fail
  have hb8 : Below w7.heap.size w7 (w7.alloc (.cells #[.int .i64 1, .int .i64 1, .slice none 0 0, .slice none 0 0] 26)) := (Below.refl _ _).alloc (Nat.le_refl _) _
  have h80 := World.alloc_heap_new w7 (.cells #[.int .i64 1, .int .i64 1, .slice none 0 0, .slice none 0 0] 26)
  have hsz8 : w7.heap.size < (w7.alloc (.cells #[.int .i64 1, .int .i64 1, .slice none 0 0, .slice none 0 0] 26)).heap.size := by simp
  have hf8 := hf.later hb8
  generalize w7.alloc (.cells #[.int .i64 1, .int .i64 1, .slice none 0 0, .slice none 0 0] 26) = w8 at *
  refine (lprim_any w8 (CoreIn.one 10 13 (CoreIn.leaf _ w8 1 1) hsz8 h80)).mono ?_
  rintro e w9 ⟨b0, b1, b2, b3, rfl, hbb, hb9⟩
  go_wp2_with fail
  refine (lfn_any 1 w9 hbb).mono ?_
  rintro e w10 ⟨g0, g1, g2, g3, rfl, hg, hb10⟩
  have hf10 := (hf8.later hb9).later hb10
  obtain ⟨gk, gn, gA2, gn2, gd2, gA3, gn3, gd3, hgs⟩ := hg.shape
  simp only [Array.mk.injEq, List.cons.injEq, and_true] at hgs
  obtain ⟨rfl, rfl, rfl, rfl⟩ := hgs
  go_wp2_with fail
  have hb11 : Below w10.heap.size w10 (w10.alloc (.cells #[.int .i64 fk, .int .i64 fn, .slice fA2 fn2 fd2, .slice fA3 fn3 fd3, .int .i64 gk, .int .i64 gn, .slice gA2 gn2 gd2, .slice gA3 gn3 gd3] 26)) := (Below.refl _ _).alloc (Nat.le_refl _) _
  have h110 := World.alloc_heap_new w10 (.cells #[.int .i64 fk, .int .i64 fn, .slice fA2 fn2 fd2, .slice fA3 fn3 fd3, .int .i64 gk, .int .i64 gn, .slice gA2 gn2 gd2, .slice gA3 gn3 gd3] 26)
  have hsz11 : w10.heap.size < (w10.alloc (.cells #[.int .i64 fk, .int .i64 fn, .slice fA2 fn2 fd2, .slice fA3 fn3 fd3, .int .i64 gk, .int .i64 gn, .slice gA2 gn2 gd2, .slice gA3 gn3 gd3] 26)).heap.size := by simp
  have hf11 := hf10.later hb11
  have hg11 := hg.later hb11
  generalize w10.alloc (.cells #[.int .i64 fk, .int .i64 fn, .slice fA2 fn2 fd2, .slice fA3 fn3 fd3, .int .i64 gk, .int .i64 gn, .slice gA2 gn2 gd2, .slice gA3 gn3 gd3] 26) = w11 at *
  refine (lprim_any w11 (CoreIn.two 10 16 hf11 hg11 hsz11 h110)).mono ?_
  rintro e w12 ⟨d0, d1, d2, d3, rfl, hd, hb12⟩
  have hb412 : Below w4.heap.size w4 w12 := by
    have i5 := hb5.size; have i6 := hb6.size; have i7 := hb7.size; have i8 := hb8.size; have i9 := hb9.size; have i10 := hb10.size; have i11 := hb11.size
    exact hb5.trans ((hb6.mono (by omega)).trans ((hb7.mono (by omega)).trans ((hb8.mono (by omega)).trans ((hb9.mono (by omega)).trans ((hb10.mono (by omega)).trans ((hb11.mono (by omega)).trans (hb12.mono (by omega))))))))
  have h12 : w12.heap[w4.heap.size]? = some (.cells #[.int .i64 4, .int .i64 0, .slice A 1 c, .int .i64 4] 31) := by
    have i5 := hb5.size; have i6 := hb6.size; have i7 := hb7.size; have i8 := hb8.size; have i9 := hb9.size; have i10 := hb10.size; have i11 := hb11.size
    exact (hb12.block _ (by omega)).trans ((hb11.block _ (by omega)).trans ((hb10.block _ (by omega)).trans ((hb9.block _ (by omega)).trans ((hb8.block _ (by omega)).trans ((hb7.block _ (by omega)).trans ((hb6.block _ (by omega)).trans h50))))))
  have hs12 : w4.heap.size < w12.heap.size := (Array.getElem?_eq_some_iff.1 h12).1
  have hR2 := run_ready (hr4.below hb412) hd (by decide) (inp := []) (Ai := none) (ci := 0) (ints_nil _ _) (Nat.le_refl _) 99
  rw [know2] at hR2
  clear hb5 h51 h50 hsz5 ha hb6 hf hb7 hb8 h80 hsz8 hf8 hbb hb9 hg hb10 hf10 hb11 h110 hsz11 hf11 hg11 hd hb12 h04 k0 k1 k2 k3
  go_wp2_with fail
  refine hR2.mono ?_
  rintro e w13 ⟨v, B, d, rfl, rfl, hE2, hb13, _⟩
  obtain ⟨B', d', hBeq, hi2⟩ := hE2
  simp only [Value.agg.injEq, Array.mk.injEq, List.cons.injEq, Value.slice.injEq, true_and, and_true] at hBeq
  obtain ⟨rfl, rfl⟩ := hBeq
  have hb413 : Below w4.heap.size w4 w13 := hb412.trans (hb13.mono (Nat.le_of_lt hs12))
  have h13 : w13.heap[w4.heap.size]? = some (.cells #[.int .i64 4, .int .i64 0, .slice A 1 c, .int .i64 4] 31) := (hb13.block _ hs12).trans h12
  have hs13 : w4.heap.size < w13.heap.size := (Array.getElem?_eq_some_iff.1 h13).1
  have m0 : w13.cell? ⟨w4.heap.size, 0, none⟩ = some (.int .i64 4) := by simp [World.cell?, h13]
  have m2 : w13.cell? ⟨w4.heap.size, 2, none⟩ = some (.slice A 1 c) := by simp [World.cell?, h13]
  have m3 : w13.cell? ⟨w4.heap.size, 3, none⟩ = some (.int .i64 4) := by simp [World.cell?, h13]
  have HI1 := Lib.hid (show IntsIn w13.heap.size w13 A [7] from (hi1.below hb413).mono (Nat.le_of_lt hs13))
  have HI2 := Lib.hid (show IntsIn w13.heap.size w13 B [7] from hi2)
  have HB13 := Lib.hid (hbw4.trans (hb413.mono (Nat.le_of_lt s4)))
  clear hR2 h12 hb412 hb13 hb413 h13 hi1 hi2 hr hr4 hbw4
  have hb14 : Below w13.heap.size w13 ((w13.alloc (.cells #[.int .i64 1, .int .i64 0, .slice B 1 d, .int .i64 7] 31)).alloc (.cells #[.int .i64 7] 3)) := ((Below.refl _ _).alloc (Nat.le_refl _) _).alloc (by simp) _
  have h14 : ((w13.alloc (.cells #[.int .i64 1, .int .i64 0, .slice B 1 d, .int .i64 7] 31)).alloc (.cells #[.int .i64 7] 3)).cell? ⟨w13.heap.size + 1, 0, none⟩ = some (.int .i64 7) := by
    rw [World.cell?_alloc_at _ _ _ _ (by simp)]; rfl
  have h140 : ((w13.alloc (.cells #[.int .i64 1, .int .i64 0, .slice B 1 d, .int .i64 7] 31)).alloc (.cells #[.int .i64 7] 3)).heap[w13.heap.size]? = some (.cells #[.int .i64 1, .int .i64 0, .slice B 1 d, .int .i64 7] 31) :=
    (((Below.refl _ _).alloc (Nat.le_refl _) _ : Below (w13.alloc (.cells #[.int .i64 1, .int .i64 0, .slice B 1 d, .int .i64 7] 31)).heap.size _ _).block w13.heap.size (by simp)).trans (World.alloc_heap_new w13 _)
  have S1 := Lib.hid (sameInts_any (c := c) (c' := 1) _ ((HI1.out.below hb14).mono hb14.size) (ints_seven h14))
  have m14 := cell_behind hb14 m3
  have hb14' := Lib.hid hb14
  go_wp2_with fail
  have hs14 : w13.heap.size + 2 = ((w13.alloc (.cells #[.int .i64 1, .int .i64 0, .slice B 1 d, .int .i64 7] 31)).alloc (.cells #[.int .i64 7] 3)).heap.size := by simp
  generalize (w13.alloc (.cells #[.int .i64 1, .int .i64 0, .slice B 1 d, .int .i64 7] 31)).alloc (.cells #[.int .i64 7] 3) = w14 at *
  refine S1.out.mono ?_
  rintro e w15 ⟨rfl, n1, rfl⟩
  have r0 : w14.cell? ⟨w13.heap.size, 0, none⟩ = some (.int .i64 1) := by simp [World.cell?, h140]
  have r2 : w14.cell? ⟨w13.heap.size, 2, none⟩ = some (.slice B 1 d) := by simp [World.cell?, h140]
  have r3 : w14.cell? ⟨w13.heap.size, 3, none⟩ = some (.int .i64 7) := by simp [World.cell?, h140]
  have hl14 : w13.heap.size < w14.heap.size := by omega
  clear hb14 h14 h140 m0 m2 m3
  go_wp2_with fail
  have hb16 : Below w14.heap.size w14 ((w14.drewN n1).alloc (.cells #[.int .i64 7] 3)) := (below_drewN (Below.refl _ _) _).alloc (Nat.le_refl _) _
  have h16 : ((w14.drewN n1).alloc (.cells #[.int .i64 7] 3)).cell? ⟨w14.heap.size, 0, none⟩ = some (.int .i64 7) := by
    show ((w14.drewN n1).alloc (.cells #[.int .i64 7] 3)).cell? ⟨(w14.drewN n1).heap.size, 0, none⟩ = _
    rw [World.cell?_alloc_at _ _ _ _ rfl]; rfl
  have S2 := Lib.hid (sameInts_any (c := d) (c' := 1) _ ((((HI2.out.below hb14'.out).mono hb14'.out.size).below hb16).mono hb16.size) (ints_seven h16))
  refine S2.out.mono ?_
  rintro e w17 ⟨rfl, n2, rfl⟩
  have hb16' := Lib.hid hb16
  have r3' := cell_behind hb16 r3
  clear hb16 h16
  go_wp2_with fail
  go_ret
  refine ⟨rfl, ?_⟩
  have hA := HB13.out
  have hBb := hA.trans (hb14'.out.mono hA.size)
  exact below_drewN (hBb.trans (hb16'.out.mono hBb.size)) _
end Go.Proofs.YtnolhcdfknjncaaDoor
