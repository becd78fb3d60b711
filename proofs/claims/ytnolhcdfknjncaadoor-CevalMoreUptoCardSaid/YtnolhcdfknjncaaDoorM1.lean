/-
  CevalMore: the walk.
-/
import Derived.Test.YtnolhcdfknjncaaDoorM00
set_option linter.unusedVariables false
set_option linter.unusedSimpArgs false
namespace Go.Proofs.YtnolhcdfknjncaaDoor
open Go.RowKit

/-- both runs' ends, as the law asks of them -/
theorem more_law (t : Core) (inp : List Int) (f more : Int) (hm : 0 ≤ more) :
    ((runE t inp (min f 1500)).kind ≠ 3 → sameE (runE t inp (min f 1500)) (runE t inp (max (min f 1500) 0 + min more 1500)) = true ∧ (runE t inp (min f 1500)).steps = (runE t inp (max (min f 1500) 0 + min more 1500)).steps) ∧
    ((runE t inp (min f 1500)).kind = 3 → beginsB (runE t inp (max (min f 1500) 0 + min more 1500)).out (runE t inp (min f 1500)).out = true ∧ (runE t inp (min f 1500)).steps ≤ (runE t inp (max (min f 1500) 0 + min more 1500)).steps ∧
      ((runE t inp (min f 1500)).steps : Int) = max (min f 1500) 0) := by
  unfold runE
  by_cases hr : rightE t = 0
  · rw [if_pos hr, if_pos hr]
    have h1 := fuelOf_int (min f 1500)
    have h2 := fuelOf_int (max (min f 1500) 0 + min more 1500)
    have hle : fuelOf (min f 1500) ≤ fuelOf (max (min f 1500) 0 + min more 1500) := by omega
    obtain ⟨ha, hb⟩ := more_ends (t := t) (inp := inp.take 4096) hle
    unfold runOut
    constructor
    · intro hk
      rw [ha hk]
      exact ⟨by simp [sameE], rfl⟩
    · intro hk
      obtain ⟨h3, h4, h5⟩ := hb hk
      exact ⟨by simp only [beginsB, decide_eq_true_eq]; exact h3, h4, by rw [h5]; omega⟩
  · rw [if_neg hr, if_neg hr]
    exact ⟨fun _ => ⟨by simp [sameE], rfl⟩, fun h => by simp at h⟩

set_option maxRecDepth 100000 in
set_option maxHeartbeats 4000000 in
theorem more_guard {t : Core} {v : Array Value} (W : World) (hr : Ready W) (hin : CoreIn W.heap.size W t v) (hh : t.hgt ≤ 1048576) (inp : List Int) (Ai : Option Addr) (ci : Nat) (f more : Int) (hg : fewB t inp = false ∨ more < 0) :
    Calls Tryd.prog 4 #[.agg v, .slice Ai inp.length ci, .int .i64 f, .int .i64 more] W (BoolBelow true W) := by
  obtain ⟨k0, n0, A2, n2, d2, A3, n3, d3, rfl⟩ := hin.shape
  have hb0 : Below W.heap.size W (W.alloc (.cells #[.int .i64 k0, .int .i64 n0, .slice A2 n2 d2, .slice A3 n3 d3] 26)) := (Below.refl _ _).alloc (Nat.le_refl _) _
  have HF := Lib.hid (few_any _ (hin.later hb0) hh inp Ai ci)
  have HB := Lib.hid hb0
  have HR := Lib.hid (hr.below hb0)
  clear hin hb0 hr
  generalize inp.length = L at *
  cases hfw : fewB t inp with
  | false =>
    rw [hfw] at HF
    clear hfw hg
    go_enter Tryd.func4, Tryd.ntmps4
    go_wp2_with fail
    refine HF.out.mono ?_
    rintro e w' ⟨rfl, hb1⟩
    have HK := Lib.hid (knows_any w' (HR.out.below hb1))
    have HB1 := Lib.hid (HB.out.trans (hb1.mono HB.out.size))
    clear hb1
    go_wp2_with (go_at_call 8; refine HK.out.mono ?_; rintro e w2 ⟨rfl, hb2⟩)
    go_ret
    exact ⟨rfl, HB1.out.trans (hb2.mono HB1.out.size)⟩
  | true =>
    rw [hfw] at HF hg
    have hm : more < 0 := by simpa using hg
    clear hfw hg
    go_enter Tryd.func4, Tryd.ntmps4
    go_wp2_with fail
    refine HF.out.mono ?_
    rintro e w' ⟨rfl, hb1⟩
    have HK := Lib.hid (knows_any w' (HR.out.below hb1))
    have HB1 := Lib.hid (HB.out.trans (hb1.mono HB.out.size))
    clear hb1
    go_wp2_with (go_at_call 8; refine HK.out.mono ?_; rintro e w2 ⟨rfl, hb2⟩)
    go_ret
    exact ⟨rfl, HB1.out.trans (hb2.mono HB1.out.size)⟩

set_option maxRecDepth 100000 in
set_option maxHeartbeats 8000000 in
theorem more_walk {t : Core} {v : Array Value} (W : World) (hr : Ready W) (hin : CoreIn W.heap.size W t v) (hh : t.hgt ≤ 1048576) (inp : List Int) (Ai : Option Addr) (ci : Nat) (hi : IntsIn W.heap.size W Ai inp) (hci : inp.length ≤ ci) (f more : Int) (hf : fewB t inp = true) (hm : 0 ≤ more) :
    Calls Tryd.prog 4 #[.agg v, .slice Ai inp.length ci, .int .i64 f, .int .i64 more] W (BoolBelow true W) := by
  obtain ⟨k0, n0, A2, n2, d2, A3, n3, d3, rfl⟩ := hin.shape
  have hsm : t.hgt ≤ 50000 := by
    simp only [fewB, decide_eq_true_eq] at hf
    have := hgt_le_nodes t hf.1
    omega
  obtain ⟨sf, hsf⟩ : ∃ sf, min f 1500 = sf := ⟨_, rfl⟩
  have hlaw := more_law t inp f more hm
  rw [hsf] at hlaw
  obtain ⟨W0, hW0⟩ : ∃ W0, W.alloc (.cells #[.int .i64 k0, .int .i64 n0, .slice A2 n2 d2, .slice A3 n3 d3] 26) = W0 := ⟨_, rfl⟩
  have hb0 : Below W.heap.size W W0 := by rw [← hW0]; exact (Below.refl _ _).alloc (Nat.le_refl _) _
  have hs0 : W.heap.size < W0.heap.size := by rw [← hW0]; simp
  have h00 : W0.heap[W.heap.size]? = some (.cells #[.int .i64 k0, .int .i64 n0, .slice A2 n2 d2, .slice A3 n3 d3] 26 (0, 0)) := by rw [← hW0]; exact World.alloc_heap_new W _
  have HF := Lib.hid (few_any W0 (hin.later hb0) hh inp Ai ci)
  rw [hf] at HF
  have hrun := fun (g : Int) (V : World) (hV : Below W0.heap.size W0 V) => run_ready (hr.below (hb0.trans (hV.mono (Nat.le_of_lt hs0)))) (hin.later (hb0.trans (hV.mono (Nat.le_of_lt hs0)))) hsm (((hi.below hb0).below (hV.mono (Nat.le_of_lt hs0))).mono (Nat.le_trans (Nat.le_of_lt hs0) hV.size)) hci g
  have hS := fun (V : World) (hV : Below W0.heap.size W0 V) => (show V.cell? ⟨W.heap.size, 0, none⟩ = some (.int .i64 k0) ∧ V.cell? ⟨W.heap.size, 1, none⟩ = some (.int .i64 n0) ∧ V.cell? ⟨W.heap.size, 2, none⟩ = some (.slice A2 n2 d2) ∧ V.cell? ⟨W.heap.size, 3, none⟩ = some (.slice A3 n3 d3) from by
    have h := (hV.block W.heap.size hs0).trans h00
    simp [World.cell?, h])
  have HSH := Lib.hid (fun (V : World) => (show Calls Tryd.prog 10 #[.int .i64 f] V fun e w' => e = .returned (.int .i64 sf) ∧ V = w' from hsf ▸ short_any f V))
  have hsf2 : sf ≤ 1500 := by omega
  obtain ⟨mx, hmx⟩ : ∃ mx : Int, (if sf < 0 then (0 : Int) else sf) = mx := ⟨_, rfl⟩
  obtain ⟨mn, hmn⟩ : ∃ mn : Int, (if 1500 < more then (1500 : Int) else more) = mn := ⟨_, rfl⟩
  have hmx1 : max sf 0 = mx := by rw [← hmx]; split <;> omega
  have hmn1 : min more 1500 = mn := by rw [← hmn]; split <;> omega
  have hsum : max sf 0 + min more 1500 = mx + mn := by rw [hmx1, hmn1]
  rw [hsum] at hlaw
  have hmb : 0 ≤ mx ∧ mx ≤ 1500 ∧ 0 ≤ mn ∧ mn ≤ 1500 := by omega
  have hwr : IntKind.i64.wrap (mx + mn) = mx + mn := by rw [IntKind.wrap_i64]; omega
  have HTAIL := Lib.hid (fun (V3 : World) (X9 : Nat) (hV : Below W0.heap.size W0 V3) (he : EndAt V3 X9 (runE t inp sf)) (y0 y5 y6 y7 y8 y10 y11 y12 y13 y14 y15 y16 y17 y18 y19 y20 y21 y22 y23 y24 y25 y26 y27 y28 y29 y30 y31 y32 y33 y34 y35 y36 y37 y38 y39 y40 y41 y42 y43 y44 y45 y46 y47 y48 y49 y50 y51 y52 y53 y54 y55 y56 y57 y58 y59 y60 y61 y62 y63 y64 y65 y66 y67 y68 y69 y70 y71 y72 : Value) =>
    (show moreTail4.wp Tryd.prog (bodyPost Tryd.prog Tryd.f4 (BoolBelow true W)) { tmps := #[y0, .slice Ai inp.length ci, .int .i64 f, .int .i64 more, .pointer (some ⟨W.heap.size, 0, none⟩), y5, y6, y7, y8, .pointer (some ⟨X9, 0, none⟩), y10, y11, y12, y13, y14, y15, y16, y17, y18, y19, y20, y21, y22, y23, y24, y25, y26, y27, y28, y29, y30, y31, y32, y33, y34, y35, y36, y37, y38, y39, y40, y41, y42, y43, y44, y45, y46, y47, y48, y49, y50, y51, y52, y53, y54, y55, y56, y57, y58, y59, y60, y61, y62, y63, y64, y65, y66, y67, y68, y69, y70, y71, y72], defers := [] } V3 from
      more_tail4 (hb0.trans (hV.mono (Nat.le_of_lt hs0))) (hr.below (hb0.trans (hV.mono (Nat.le_of_lt hs0)))) he f more sf mx mn hsf hlaw (fun V2 h2 => hS V2 (hV.trans (h2.mono hV.size))) (fun V2 h2 => hrun (mx + mn) V2 (hV.trans (h2.mono hV.size))) hmx hmn hwr _ _ _ _ _ _ _ _ _ _ _ _ _ _ _ _ _ _ _ _ _ _ _ _ _ _ _ _ _ _ _ _ _ _ _ _ _ _ _ _ _ _ _ _ _ _ _ _ _ _ _ _ _ _ _ _ _ _ _ _ _ _ _ _ _ _ _ _))
  have HRUN := Lib.hid (hrun sf)
  have HS := Lib.hid hS
  have HB0 := Lib.hid hb0
  clear hmx1 hmn1 hsum hmb hwr hmx hmn hrun hS
  clear hin hb0 hs0 h00 hr hi hlaw hsf hf hh hsm
  generalize inp.length = L at *
  obtain ⟨y0, y1, y2, y3⟩ := HS.out W0 (Below.refl _ _)
  go_enter Tryd.func4, Tryd.ntmps4
  go_wp2_with fail
  refine HF.out.mono ?_
  rintro e w1 ⟨rfl, hb1⟩
  obtain ⟨z0, z1, z2, z3⟩ := HS.out w1 hb1
  have HB1 := Lib.hid hb1
  clear hb1
  go_wp2_with fail
  have D1 := Lib.hid (show Below W0.heap.size W0 w1.drew from HB1.out.drew)
  have D2 := Lib.hid (show Below W0.heap.size W0 (w1.alloc (.cells #[.int .i64 0, .int .i64 0, .slice none 0 0, .int .i64 0] 31)).drew from (HB1.out.alloc HB1.out.size _).drew)
  have HE9 := Lib.hid (fun (V2 : World) (hb : Below (w1.alloc (.cells #[.int .i64 0, .int .i64 0, .slice none 0 0, .int .i64 0] 31)).drew.heap.size (w1.alloc (.cells #[.int .i64 0, .int .i64 0, .slice none 0 0, .int .i64 0] 31)).drew V2) => (show V2.cell? ⟨w1.heap.size, 0, none⟩ = some (.int .i64 0) ∧ V2.cell? ⟨w1.heap.size, 1, none⟩ = some (.int .i64 0) ∧ V2.cell? ⟨w1.heap.size, 2, none⟩ = some (.slice none 0 0) ∧ V2.cell? ⟨w1.heap.size, 3, none⟩ = some (.int .i64 0) ∧ ∀ i, V2.frozen? ⟨w1.heap.size, i, none⟩ = false from by
    have h := end_zero w1 V2 hb
    exact ⟨by simp [World.cell?, h], by simp [World.cell?, h], by simp [World.cell?, h], by simp [World.cell?, h], fun i => by simp [World.frozen?, h]⟩))
  have HR1 := Lib.hid (HRUN.out _ D1.out)
  have HR2 := Lib.hid (HRUN.out _ D2.out)
  go_region_held2 (fun V => V.cell? ⟨W.heap.size, 0, none⟩ = some (.int .i64 k0) ∧ V.cell? ⟨W.heap.size, 1, none⟩ = some (.int .i64 n0) ∧ V.cell? ⟨W.heap.size, 2, none⟩ = some (.slice A2 n2 d2) ∧ V.cell? ⟨W.heap.size, 3, none⟩ = some (.slice A3 n3 d3))
    (first | exact HS.out _ D1.out | exact HS.out _ D2.out | exact HS.out _ (D1.out.trans (hb2.mono D1.out.size)) | exact HS.out _ (D2.out.trans (hb2.mono D2.out.size)) | exact HS.out _ ((D1.out.trans (hb2.mono D1.out.size)).alloc (Nat.le_trans D1.out.size hb2.size) _) | exact HS.out _ (((((D2.out.trans (hb2.mono D2.out.size)).setCell (p := ⟨_, _, none⟩) HB1.out.size _).setCell (p := ⟨_, _, none⟩) HB1.out.size _).setCell (p := ⟨_, _, none⟩) HB1.out.size _).setCell (p := ⟨_, _, none⟩) HB1.out.size _))
    ((first
      | (go_at_call 10; refine (HSH.out _).mono ?_; rintro en w' ⟨rfl, rfl⟩)
      | (go_at_call 9; (with_reducible refine HR2.out.mono ?_); rintro en w2 ⟨v, A, c, rfl, rfl, hE, hb2, hlo⟩; obtain ⟨e90, e91, e92, e93, e9f⟩ := HE9.out _ hb2)
      | (go_at_call 9; (with_reducible refine HR1.out.mono ?_); rintro en w2 ⟨v, A, c, rfl, rfl, hE, hb2, hlo⟩)))
  all_goals
    simp only [Exit.then]
    refine (‹∀ (a : Act) (w : World), Code.wp Tryd.prog _ _ a w → _›) _ _ ?_
    first
      | exact HTAIL.out _ _ ((D1.out.trans (hb2.mono D1.out.size)).alloc (Nat.le_trans D1.out.size hb2.size) _) (end_new hE) _ _ _ _ _ _ _ _ _ _ _ _ _ _ _ _ _ _ _ _ _ _ _ _ _ _ _ _ _ _ _ _ _ _ _ _ _ _ _ _ _ _ _ _ _ _ _ _ _ _ _ _ _ _ _ _ _ _ _ _ _ _ _ _ _ _ _ _
      | exact HTAIL.out _ _ (((((D2.out.trans (hb2.mono D2.out.size)).setCell (p := ⟨w1.heap.size, 0, none⟩) HB1.out.size _).setCell (p := ⟨w1.heap.size, 1, none⟩) HB1.out.size _).setCell (p := ⟨w1.heap.size, 2, none⟩) HB1.out.size _).setCell (p := ⟨w1.heap.size, 3, none⟩) HB1.out.size _) (end_set hb2 hlo hE) _ _ _ _ _ _ _ _ _ _ _ _ _ _ _ _ _ _ _ _ _ _ _ _ _ _ _ _ _ _ _ _ _ _ _ _ _ _ _ _ _ _ _ _ _ _ _ _ _ _ _ _ _ _ _ _ _ _ _ _ _ _ _ _ _ _ _ _
end Go.Proofs.YtnolhcdfknjncaaDoor
