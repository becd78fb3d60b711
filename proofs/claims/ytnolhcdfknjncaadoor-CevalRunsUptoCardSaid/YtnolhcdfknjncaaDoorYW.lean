/-
  1 texts of this seat in one: VW.
-/
import Derived.Test.YtnolhcdfknjncaaDoorYS
import Derived.Test.YtnolhcdfknjncaaDoorY40
/-
  CevalRuns: its walk.
-/
set_option linter.unusedVariables false
set_option linter.unusedSimpArgs false
namespace Go.Proofs.YtnolhcdfknjncaaDoor
open Go.RowKit

theorem rbox_cells {V V2 : World} {X : Nat} {a b c d : Value} (h : V.heap[X]? = some (.cells #[a, b, c, d] 26 (0, 0))) (hb : Below V.heap.size V V2) : V2.cell? ⟨X, 0, none⟩ = some a ∧ V2.cell? ⟨X, 1, none⟩ = some b ∧ V2.cell? ⟨X, 2, none⟩ = some c ∧ V2.cell? ⟨X, 3, none⟩ = some d := by
  have h2 := (hb.block X (Array.getElem?_eq_some_iff.1 h).1).trans h
  simp [World.cell?, h2]
theorem small_of : ∀ {t : Core}, WT t → nodesE t < 400 → SmallT t := by
  intro t h
  induction h with
  | @mk t hn hk ih =>
    intro hs
    obtain ⟨k, n, ks, cs⟩ := t
    simp only [nodesE] at hs
    have h1 := nodesK_ge (1 + ks.length) cs
    have h2 := nodesK_kid _ cs hs
    exact .mk hn (by show ks.length ≤ 1000; omega) (fun c hc => ih c hc (by have := h2 c hc; omega))
set_option maxRecDepth 100000 in
set_option maxHeartbeats 8000000 in
theorem runs_walk {t : Core} {vv : Array Value} (W : World) (hr : Ready W) (hin : CoreIn W.heap.size W t vv) (hh : t.hgt ≤ 1048576) (inp : List Int) (Ai : Option Addr) (ci : Nat) (hi : IntsIn W.heap.size W Ai inp) (hci : inp.length ≤ ci) (f : Int) :
    Calls Tryd.prog 3 #[.agg vv, .slice Ai inp.length ci, .int .i64 f] W (BoolBelow true W) := by
  obtain ⟨t0, t1, T2, t2, g2, T3, t3, g3, rfl⟩ := hin.shape
  obtain ⟨W0, hW0⟩ : ∃ W0, W.alloc (.cells #[.int .i64 t0, .int .i64 t1, .slice T2 t2 g2, .slice T3 t3 g3] 26) = W0 := ⟨_, rfl⟩
  have hb0 : Below W.heap.size W W0 := by rw [← hW0]; exact (Below.refl _ _).alloc (Nat.le_refl _) _
  have hx0 : W0.heap[W.heap.size]? = some (.cells #[.int .i64 t0, .int .i64 t1, .slice T2 t2 g2, .slice T3 t3 g3] 26 (0, 0)) := by rw [← hW0]; exact World.alloc_heap_new W _
  have HF := Lib.hid (few_any W0 (hin.later hb0) hh inp Ai ci)
  have HC := Lib.hid (fun (V : World) (h : Below W0.heap.size W0 V) => rbox_cells hx0 h)
  have HK := Lib.hid (fun (V : World) (h : Below W0.heap.size W0 V) => knows_any V (hr.below (hb0.trans (h.mono hb0.size))))
  have HB0 := Lib.hid hb0
  obtain ⟨z0, z1, z2, z3⟩ := HC.out W0 (Below.refl _ _)
  cases hfw : fewB t inp with
  | false =>
    rw [hfw] at HF
    clear hin hb0 hx0 hr hi hci hh hfw
    generalize inp.length = L at *
    go_enter Tryd.func3, Tryd.ntmps3
    go_wp2_with (first
      | (go_at_call 7; refine HF.out.mono ?_; rintro e w1 ⟨rfl, hb1⟩)
      | (go_at_call 8; refine (HK.out _ hb1).mono ?_; rintro e w4 ⟨rfl, hb4⟩))
    go_ret
    exact ⟨rfl, (HB0.out.trans (hb1.mono HB0.out.size)).trans (hb4.mono (Nat.le_trans HB0.out.size hb1.size))⟩
  | true =>
    rw [hfw] at HF
    have hsm : nodesE t < 400 ∧ inp.length ≤ 60 := by
      simp only [fewB, decide_eq_true_eq] at hfw
      exact hfw
    have hh5 : t.hgt ≤ 50000 := by have := hgt_le_nodes t hsm.1; omega
    have HGO := Lib.hid (fun (V : World) (h : Below W0.heap.size W0 V) (y0 y4 y5 y6 y7 y8 y9 y10 y11 y12 y13 y14 y15 y16 y17 y18 y19 y20 y21 y22 y23 y24 y25 y26 y27 y28 y29 y30 y31 y32 y33 y34 y35 y36 y37 y38 y39 y40 : Value) =>
      (show ∀ K : Act → World → Prop, (∀ a w, runsT4.wp Tryd.prog (bodyPost Tryd.prog Tryd.f3 (BoolBelow true W)) a w → K a w) → runsR3.wp Tryd.prog (Exit.then K (bodyPost Tryd.prog Tryd.f3 (BoolBelow true W))) { tmps := #[y0, .slice Ai inp.length ci, .int .i64 f, .pointer (some ⟨W.heap.size, 0, none⟩), y4, y5, y6, y7, y8, y9, y10, y11, y12, y13, y14, y15, y16, y17, y18, y19, y20, y21, y22, y23, y24, y25, y26, y27, y28, y29, y30, y31, y32, y33, y34, y35, y36, y37, y38, y39, y40], defers := [] } V from by
        have hbW := hb0.trans (h.mono hb0.size)
        have hrV := hr.below hbW
        have hcV : ∀ V2, Below V.heap.size V V2 → CoreIn V2.heap.size V2 t #[.int .i64 t0, .int .i64 t1, .slice T2 t2 g2, .slice T3 t3 g3] := fun V2 h2 => (hin.later hbW).later h2
        have hiV : ∀ V2, Below V.heap.size V V2 → IntsIn V2.heap.size V2 Ai inp := fun V2 h2 => (((hi.below hbW).mono hbW.size).below h2).mono h2.size
        exact runs_tail3 (sf := min f 1500) hbW hrV rfl (fun V2 h2 => rbox_cells hx0 (h.trans (h2.mono h.size))) (fun V2 => short_any f V2)
          (fun V2 h2 => run_ready (hrV.below h2) (hcV V2 h2) hh5 (hiV V2 h2) hci (min f 1500))
          (fun V2 h2 => rrun_ready (hcV V2 h2) (fun h0 => small_of (wt_of_right h0) hsm.1) (hiV V2 h2) hci (by omega) (min f 1500))
          (runE_right t inp (min f 1500) (fun h0 => wt_of_right h0)) _ _ _ _ _ _ _ _ _ _ _ _ _ _ _ _ _ _ _ _ _ _ _ _ _ _ _ _ _ _ _ _ _ _ _ _ _ _))
    clear hin hb0 hx0 hr hi hci hh hfw hsm hh5 HK
    generalize inp.length = L at *
    go_enter Tryd.func3, Tryd.ntmps3
    go_wp2_with (first
      | (go_at_call 7; refine HF.out.mono ?_; rintro e w1 ⟨rfl, hb1⟩))
    exact HGO.out w1 hb1 _ _ _ _ _ _ _ _ _ _ _ _ _ _ _ _ _ _ _ _ _ _ _ _ _ _ _ _ _ _ _ _ _ _ _ _ _ _ _ ‹∀ (a : Act) (w : World), Code.wp Tryd.prog _ _ a w → _›
end Go.Proofs.YtnolhcdfknjncaaDoor
