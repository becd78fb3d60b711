/-
  1 texts of this seat in one: V40.
-/
import Derived.Test.YtnolhcdfknjncaaDoorY38
import Derived.Test.YtnolhcdfknjncaaDoorQI
/-
  The document's run, whole.
-/
set_option linter.unusedVariables false
set_option linter.unusedSimpArgs false
namespace Go.Proofs.YtnolhcdfknjncaaDoor
open Go.RowKit

section
variable {X Y Y' : Nat → Prop} {B mb cb n : Nat} {inp : List Int} {fuel : FL} {s s1 : St} {W W' V0 V w w' : World} {o : Out}
theorem rend_any {a b c : Value} (h : OutIn X B mb cb inp fuel W a b c o) : Calls Tryd.prog 29 #[.pointer (some ⟨mb, 0, none⟩)] W (EndIn B W (endOf fuel.f o)) := by
  obtain ⟨r, s⟩ := o
  cases r with
  | val v => exact rend_flag h.1
  | raised v =>
    obtain ⟨y0, y1, y2, g1, g2, k, hk⟩ := h
    refine (rend_raised g1 g2 hk).mono fun e w' hp => ?_
    simp only [endOf, hk, Option.getD_some]
    exact hp
  | stuck => exact rend_flag h
  | cut => exact rend_flag h
abbrev mObj (Ai : Option Addr) (n ci : Nat) (f : Int) : Obj := .cells #[.slice Ai n ci, .int .i64 0, .int .i64 f, .int .i64 0, .slice none 0 0, .slice none 0 0, .bool false, .bool false, .bool false, .int .i64 0, .int .i64 0, .slice none 0 0] 73
set_option maxRecDepth 100000 in
set_option maxHeartbeats 2000000 in
theorem rbegin_any (Ai : Option Addr) (n ci : Nat) (f : Int) (w : World) : Calls Tryd.prog 27 #[.slice Ai n ci, .int .i64 f] w fun e w' => e = .returned (.pointer (some ⟨w.heap.size, 0, none⟩)) ∧ w.alloc (mObj Ai n ci (fuelOf f : Int)) = w' := by
  have HF := Lib.hid (fuelOf_int f)
  generalize ((fuelOf f : Nat) : Int) = ff at *
  go_enter Tryd.func27, Tryd.ntmps27
  go_wp2_with fail
  all_goals
    go_ret
    refine ⟨rfl, ?_⟩
    have hv := HF.out
    first
      | (obtain rfl : ff = 0 := (by omega); rfl)
      | (obtain rfl : ff = 1000000 := (by omega); rfl)
      | (obtain rfl : ff = f := (by omega); rfl)
theorem RGo.start {W0 W : World} {inp : List Int} {Ai : Option Addr} {ci : Nat} {f : Nat} (hf : f ≤ 1000000) (hi : IntsIn W0.heap.size W0 Ai inp) (hci : inp.length ≤ ci) (hil : inp.length ≤ 4096) (hb : Below W0.heap.size W0 W) (hmb : W0.heap.size ≤ mb) (hcb : W0.heap.size ≤ cb) (hne : mb ≠ cb)
    (hm : W.heap[mb]? = some (.cells #[.slice Ai inp.length ci, .int .i64 0, .int .i64 (f : Int), .int .i64 0, .slice none 0 0, .slice none 0 0, .bool false, .bool false, .bool false, .int .i64 0, .int .i64 0, .slice none 0 0] 73 (0, 0))) (hc : W.heap[cb]? = some (.cells #[.pointer (some ⟨mb, 0, none⟩), .slice none 0 0] 61 (0, 0))) :
    RGo (Own2 mb cb) W0.heap.size mb cb inp ⟨f, f⟩ (initSt f) W where
  hmb := hmb
  hcb := hcb
  hne := hne
  hX := fun k hk => hk
  m := ⟨Ai, ci, none, 0, none, 0, by rw [hm]; simp [initSt], hi.below hb, hci, Nat.le_refl _, Nat.le_refl _, ⟨fun a ha => (by cases ha), .inl rfl⟩, .inl rfl⟩
  c := ⟨none, 0, hc, Nat.le_refl _, .inl rfl⟩
  left := Nat.le_refl _
  fuelB := hf
  limB := Nat.le_refl _
  inpB := hil
  askB := by simp [initSt]
  outB := by simp [initSt]
  celB := by simp [initSt]
  fnsB := by simp [initSt]
set_option maxRecDepth 100000 in
set_option maxHeartbeats 4000000 in
theorem rrun_ready {w : World} {t : Core} {v : Array Value} (hin : CoreIn w.heap.size w t v) (hsm : rightE t = 0 → SmallT t) {inp : List Int} {Ai : Option Addr} {ci : Nat} (hi : IntsIn w.heap.size w Ai inp) (hci : inp.length ≤ ci) (hil : inp.length ≤ 4096) (f : Int) :
    Calls Tryd.prog 11 #[.agg v, .slice Ai inp.length ci, .int .i64 f] w (RunPost (runE t inp f) w) := by
  obtain ⟨k0, n0, A2, n2, d2, A3, n3, d3, rfl⟩ := hin.shape
  have hb0 := below_al2 w (.cells #[.int .i64 k0, .int .i64 n0, .slice A2 n2 d2, .slice A3 n3 d3] 26) (.cells #[.int .i64 0, .int .i64 0, .slice none 0 0, .int .i64 0] 31)
  have hq := ((below_al1 _ (.cells #[.int .i64 0, .int .i64 0, .slice none 0 0, .int .i64 0] 31)).block w.heap.size (by simp)).trans (new1 w (.cells #[.int .i64 k0, .int .i64 n0, .slice A2 n2 d2, .slice A3 n3 d3] 26))
  have hbx := new2 w (.cells #[.int .i64 k0, .int .i64 n0, .slice A2 n2 d2, .slice A3 n3 d3] 26) (.cells #[.int .i64 0, .int .i64 0, .slice none 0 0, .int .i64 0] 31)
  generalize hW0 : ((w.alloc (.cells #[.int .i64 k0, .int .i64 n0, .slice A2 n2 d2, .slice A3 n3 d3] 26)).alloc (.cells #[.int .i64 0, .int .i64 0, .slice none 0 0, .int .i64 0] 31)) = W0 at *
  have hsz : w.heap.size + 1 < W0.heap.size := (Array.getElem?_eq_some_iff.1 hbx).1
  have hin0 : CoreIn W0.heap.size W0 t #[.int .i64 k0, .int .i64 n0, .slice A2 n2 d2, .slice A3 n3 d3] := (hin.kept hb0).mono hb0.size
  have hi0 : IntsIn W0.heap.size W0 Ai inp := (hi.below hb0).mono hb0.size
  have u0 : W0.cell? ⟨w.heap.size, 0, none⟩ = some (.int .i64 k0) := cell_block hq rfl
  have u1 : W0.cell? ⟨w.heap.size, 1, none⟩ = some (.int .i64 n0) := cell_block hq rfl
  have u2 : W0.cell? ⟨w.heap.size, 2, none⟩ = some (.slice A2 n2 d2) := cell_block hq rfl
  have u3 : W0.cell? ⟨w.heap.size, 3, none⟩ = some (.slice A3 n3 d3) := cell_block hq rfl
  have HRT := Lib.hid (rright_any W0 hin0 (Nat.le_refl _))
  have hiff := right_iff t
  by_cases hr : rightR t = 0
  · have hE := hiff.1 hr
    have hst := hsm hE
    have hrun : runE t inp f = endOf (fuelOf f) (ev inp (fuelOf f + 1) t [] (initSt (fuelOf f))) := by
      unfold runE runOut
      rw [if_pos hE, List.take_of_length_le hil]
    rw [hrun]
    rw [hr] at HRT
    have HBEG := Lib.hid (fun (V : World) => rbegin_any Ai inp.length ci f V)
    have HMAIN := Lib.hid (fun (w1 : World) (hb1 : Below W0.heap.size W0 w1) =>
      (show (((w1.alloc (mObj Ai inp.length ci (fuelOf f : Int))).alloc (.cells #[.pointer (some ⟨w1.heap.size, 0, none⟩), .slice none 0 0] 61)).cell? ⟨w.heap.size, 0, none⟩ = some (.int .i64 k0) ∧ ((w1.alloc (mObj Ai inp.length ci (fuelOf f : Int))).alloc (.cells #[.pointer (some ⟨w1.heap.size, 0, none⟩), .slice none 0 0] 61)).cell? ⟨w.heap.size, 1, none⟩ = some (.int .i64 n0) ∧ ((w1.alloc (mObj Ai inp.length ci (fuelOf f : Int))).alloc (.cells #[.pointer (some ⟨w1.heap.size, 0, none⟩), .slice none 0 0] 61)).cell? ⟨w.heap.size, 2, none⟩ = some (.slice A2 n2 d2) ∧ ((w1.alloc (mObj Ai inp.length ci (fuelOf f : Int))).alloc (.cells #[.pointer (some ⟨w1.heap.size, 0, none⟩), .slice none 0 0] 61)).cell? ⟨w.heap.size, 3, none⟩ = some (.slice A3 n3 d3)) ∧
        Calls Tryd.prog 28 #[.pointer (some ⟨w1.heap.size + 1, 0, none⟩), .agg #[.int .i64 k0, .int .i64 n0, .slice A2 n2 d2, .slice A3 n3 d3], .pointer none] ((w1.alloc (mObj Ai inp.length ci (fuelOf f : Int))).alloc (.cells #[.pointer (some ⟨w1.heap.size, 0, none⟩), .slice none 0 0] 61)) (fun en w3 => (∃ k n A l d, en = .returned (.agg #[.int .i64 k, .int .i64 n, .slice A l d])) ∧ w3.cell? ⟨w1.heap.size + 1, 0, none⟩ = some (.pointer (some ⟨w1.heap.size, 0, none⟩)) ∧
          Calls Tryd.prog 29 #[.pointer (some ⟨w1.heap.size, 0, none⟩)] w3 (fun en w5 => ∃ pe A c, pe = endOf (fuelOf f) (ev inp (fuelOf f + 1) t [] (initSt (fuelOf f))) ∧ en = .returned (.agg #[.int .i64 pe.kind, .int .i64 pe.n, .slice A pe.out.length c, .int .i64 pe.steps]) ∧ (w5.cell? ⟨w.heap.size + 1, 0, none⟩ = some (.int .i64 0) ∧ w5.cell? ⟨w.heap.size + 1, 1, none⟩ = some (.int .i64 0) ∧ w5.cell? ⟨w.heap.size + 1, 2, none⟩ = some (.slice none 0 0) ∧ w5.cell? ⟨w.heap.size + 1, 3, none⟩ = some (.int .i64 0) ∧ ∀ i, w5.frozen? ⟨w.heap.size + 1, i, none⟩ = false) ∧
            RunPost pe w (.returned (.agg #[.int .i64 pe.kind, .int .i64 pe.n, .slice A pe.out.length c, .int .i64 pe.steps])) ((((w5.setCell ⟨w.heap.size + 1, 0, none⟩ (.int .i64 pe.kind)).setCell ⟨w.heap.size + 1, 1, none⟩ (.int .i64 pe.n)).setCell ⟨w.heap.size + 1, 2, none⟩ (.slice A pe.out.length c)).setCell ⟨w.heap.size + 1, 3, none⟩ (.int .i64 pe.steps)))) from by
        have hal := below_al2 w1 (mObj Ai inp.length ci (fuelOf f : Int)) (.cells #[.pointer (some ⟨w1.heap.size, 0, none⟩), .slice none 0 0] 61)
        have hm := ((below_al1 _ (.cells #[.pointer (some ⟨w1.heap.size, 0, none⟩), .slice none 0 0] 61)).block w1.heap.size (by simp)).trans (new1 w1 (mObj Ai inp.length ci (fuelOf f : Int)))
        have hcc := new2 w1 (mObj Ai inp.length ci (fuelOf f : Int)) (.cells #[.pointer (some ⟨w1.heap.size, 0, none⟩), .slice none 0 0] 61)
        generalize ((w1.alloc (mObj Ai inp.length ci (fuelOf f : Int))).alloc (.cells #[.pointer (some ⟨w1.heap.size, 0, none⟩), .slice none 0 0] 61)) = w2 at *
        have hb2 : Below W0.heap.size W0 w2 := hb1.trans (hal.mono hb1.size)
        have hs1 := hb1.size
        have hsz2 : w1.heap.size + 1 < w2.heap.size := (Array.getElem?_eq_some_iff.1 hcc).1
        have hg : RGo (Own2 w1.heap.size (w1.heap.size + 1)) W0.heap.size w1.heap.size (w1.heap.size + 1) inp ⟨fuelOf f, fuelOf f⟩ (initSt (fuelOf f)) w2 := RGo.start (fuelOf_le f) hi0 hci hil hb2 hs1 (by omega) (by omega) hm hcc
        refine ⟨⟨cell_behind hb2 u0, cell_behind hb2 u1, cell_behind hb2 u2, cell_behind hb2 u3⟩, ?_⟩
        refine (rterm_any W0.heap.size w1.heap.size (w1.heap.size + 1) inp (fuelOf f + 1) _ _ _ w2 t _ _ _ _ [] (.pointer none) hg (fun k hk => by rcases hk with hk | hk <;> omega) (hin0.kept hb2) hst .nil (Nat.lt_succ_self _)).mono fun en w3 hp => ?_
        obtain ⟨hst3, -, k, n, A, l, d, rfl, ho⟩ := hp
        have hmc : w3.cell? ⟨w1.heap.size + 1, 0, none⟩ = some (.pointer (some ⟨w1.heap.size, 0, none⟩)) := by
          generalize ev inp (fuelOf f + 1) t [] (initSt (fuelOf f)) = o at ho
          obtain ⟨r, s'⟩ := o
          cases r with
          | val v => exact ho.1.cells.2.2.2.2.2.2.2.2.2.2
          | raised v => obtain ⟨y0, y1, y2, g1, -⟩ := ho; exact g1.cells.2.2.2.2.2.2.2.2.2.2
          | stuck => exact RIn.cells ho |>.2.2.2.2.2.2.2.2.2.2
          | cut => exact RIn.cells ho |>.2.2.2.2.2.2.2.2.2.2
        refine ⟨⟨k, n, A, l, d, rfl⟩, hmc, (rend_any ho).mono fun en w5 hp => ?_⟩
        obtain ⟨A', c', rfl, hin', hle', hA', hb5⟩ := hp
        have hb25 : Below W0.heap.size w2 w5 := hst3.bel.trans (hb5.mono (Nat.le_trans hb2.size hst3.kp.size))
        have hb05 : Below W0.heap.size W0 w5 := hb2.trans hb25
        have hbx5 := (hb05.block _ hsz).trans hbx
        refine ⟨_, A', c', rfl, rfl, ⟨cell_block hbx5 rfl, cell_block hbx5 rfl, cell_block hbx5 rfl, cell_block hbx5 rfl, fun i => by simp [World.frozen?, hbx5]⟩, ⟨_, A', c', rfl, rfl, ⟨A', c', rfl, ?_⟩, ?_, fun a ha => by have := hA' a ha; omega⟩⟩
        · refine ⟨hin'.1, hin'.2.imp id ?_⟩
          rintro ⟨b, o, rfl, hbl, hcj⟩
          have hbge := hA' _ rfl
          have hbne : w.heap.size + 1 ≠ b := by have : W0.heap.size ≤ b := hbge; omega
          refine ⟨b, o, rfl, by simpa [World.setCell] using hbl, fun j hj => ?_⟩
          rw [World.cell?_setCell_far _ _ (⟨b, o + j, none⟩ : Addr) _ hbne, World.cell?_setCell_far _ _ (⟨b, o + j, none⟩ : Addr) _ hbne, World.cell?_setCell_far _ _ (⟨b, o + j, none⟩ : Addr) _ hbne, World.cell?_setCell_far _ _ (⟨b, o + j, none⟩ : Addr) _ hbne]
          exact hcj j hj
        · have hbw := hb0.trans (hb05.mono hb0.size)
          exact (((hbw.setCell (p := ⟨w.heap.size + 1, 0, none⟩) (Nat.le_succ _) _).setCell (p := ⟨w.heap.size + 1, 1, none⟩) (Nat.le_succ _) _).setCell (p := ⟨w.heap.size + 1, 2, none⟩) (Nat.le_succ _) _).setCell (p := ⟨w.heap.size + 1, 3, none⟩) (Nat.le_succ _) _))
    obtain ⟨pe0, hpe⟩ : ∃ pe, endOf (fuelOf f) (ev inp (fuelOf f + 1) t [] (initSt (fuelOf f))) = pe := ⟨_, rfl⟩
    rw [hpe] at HMAIN ⊢
    have hlt1 : w.heap.size < W0.heap.size := by omega
    clear hin hi hb0 hq hbx hin0 hi0 hiff hr hE hst hrun hpe hsm hci hil
    generalize inp.length = il at *
    go_enter Tryd.func11, Tryd.ntmps11
    go_wp2_with (first
      | (go_at_call 15; refine HRT.out.mono ?_; rintro en w1 ⟨rfl, hb1⟩; obtain ⟨⟨t0, t1, t2, t3⟩, hTT⟩ := HMAIN.out w1 hb1; have HTT := Lib.hid hTT; clear hTT hb1)
      | (go_at_call 27; refine (HBEG.out _).mono ?_; rintro en w2 ⟨rfl, rfl⟩)
      | (go_at_call 28; refine HTT.out.mono ?_; rintro en w3 ⟨⟨k, n, A, l, d, rfl⟩, hmc, hEE⟩; have HEE := Lib.hid hEE; clear hEE)
      | (go_at_call 29; refine HEE.out.mono ?_; rintro en w5 ⟨pe, A', c', rfl, rfl, ⟨f0, f1, f2, f3, ff⟩, hR⟩; have HR := Lib.hid hR; clear hR))
    exact bodyPost_ret (by simp [results, Tryd.results11, go_sem, f0, f1, f2, f3]; try rfl) rfl HR.out
  · have hrun : runE t inp f = ⟨4, 0, [], 0⟩ := by
      unfold runE
      rw [if_neg (fun e => hr (hiff.2 e))]
    rw [hrun]
    have hr' : (rightR t != 0) = true := by simpa using hr
    have hr2 : (rightR t == 0) = false := by simpa using hr
    have HP := Lib.hid (fun (w1 : World) (hb1 : Below W0.heap.size W0 w1) => (show (w1.cell? ⟨w.heap.size + 1, 0, none⟩ = some (.int .i64 0) ∧ w1.cell? ⟨w.heap.size + 1, 1, none⟩ = some (.int .i64 0) ∧ w1.cell? ⟨w.heap.size + 1, 2, none⟩ = some (.slice none 0 0) ∧ w1.cell? ⟨w.heap.size + 1, 3, none⟩ = some (.int .i64 0) ∧ ∀ i, w1.frozen? ⟨w.heap.size + 1, i, none⟩ = false) ∧ ∀ V, Below w.heap.size w1 V → RunPost ⟨4, 0, [], 0⟩ w (.returned (.agg #[.int .i64 4, .int .i64 0, .slice none 0 0, .int .i64 0])) V from by
      have h1 := (hb1.block _ hsz).trans hbx
      refine ⟨⟨cell_block h1 rfl, cell_block h1 rfl, cell_block h1 rfl, cell_block h1 rfl, fun i => by simp [World.frozen?, h1]⟩, fun V hV => ⟨_, none, 0, rfl, rfl, ⟨none, 0, rfl, ⟨by simp, .inl rfl⟩⟩, (hb0.trans (hb1.mono hb0.size)).trans hV, fun a ha => by cases ha⟩⟩))
    clear hin hi hb0 hq hbx hin0 hi0 hiff hr hrun hsm hci hil
    generalize inp.length = il at *
    generalize rightR t = rr at *
    go_enter Tryd.func11, Tryd.ntmps11
    go_wp2_with (go_at_call 15; refine HRT.out.mono ?_; rintro en w1 ⟨rfl, hb1⟩; obtain ⟨⟨f0, f1, f2, f3, ff⟩, hR⟩ := HP.out w1 hb1; have HR := Lib.hid hR; clear hR hb1)
    refine bodyPost_ret (v := .agg #[.int .i64 4, .int .i64 0, .slice none 0 0, .int .i64 0]) (by simp [results, Tryd.results11, go_sem, f0, f1, f2, f3]; try rfl) rfl (HR.out _ ?_)
    repeat (first | exact Below.refl _ _ | exact Nat.le_succ _ | refine Below.setCell ?_ ?_ _)
end
end Go.Proofs.YtnolhcdfknjncaaDoor
