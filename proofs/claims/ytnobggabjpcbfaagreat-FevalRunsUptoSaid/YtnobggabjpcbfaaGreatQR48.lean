/-
 4 texts of this seat in one: FV43 FV44 FV45 FV46.
-/
import Derived.Test.YtnobggabjpcbfaaGreatQR33
import Derived.Test.YtnobggabjpcbfaaGreatQR47
set_option maxRecDepth 100000
set_option maxHeartbeats 16000000
set_option linter.unusedVariables false
set_option linter.unusedSimpArgs false
namespace Go.Proofs.YtnobggabjpcbfaaGreat
open Go.RowKit
section
variable {X Y Y' : Nat → Prop} {B mb cb n : Nat} {p : FlatP} {fv : Value} {inp : List Int} {fuel : FL} {s s1 : FSt} {W W' V0 V w w' : World} {o : FOut}
theorem rend_any {a b c : Value} (h : OutIn X B mb cb fv inp fuel W a b c o) : Calls Tryz.prog 22 #[.pointer (some ⟨mb, 0, none⟩)] W (EndIn B W (endF fuel.f o)) := by
 obtain ⟨r, s⟩ := o
 cases r with
 | val v => exact rend_flag h.1
 | raised v =>
  obtain ⟨y0, y1, y2, g1, g2, k, hk⟩ := h
  refine (rend_raised g1 g2 hk).mono fun e w' hp => ?_
  simp only [endF, hk, Option.getD_some]
  exact hp
 | stuck => obtain ⟨md, h⟩ := h; exact rend_flag h
 | cut => exact rend_flag h
abbrev mObj (Ai : Option Addr) (n ci : Nat) (f : Int) : Obj := .cells #[.slice Ai n ci, .int .i64 0, .int .i64 f, .int .i64 0, .slice none 0 0, .slice none 0 0, .bool false, .bool false, .bool false, .int .i64 0, .int .i64 0, .slice none 0 0] 48
theorem rbegin_any (Ai : Option Addr) (n ci : Nat) (f : Int) (w : World) : Calls Tryz.prog 28 #[.slice Ai n ci, .int .i64 f] w fun e w' => e = .returned (.pointer (some ⟨w.heap.size, 0, none⟩)) ∧ w.alloc (mObj Ai n ci (fuelOf f : Int)) = w' := by
 have HF := Lib.hid (fuelOf_int f)
 generalize ((fuelOf f : Nat) : Int) = ff at *
 go_enter Tryz.func28, Tryz.ntmps28
 go_wp2_with fail
 all_goals
  go_ret
  refine ⟨rfl, ?_⟩
  have hv := HF.out
  first
   | (obtain rfl : ff = 0 := (by omega); rfl)
   | (obtain rfl : ff = 1000000 := (by omega); rfl)
   | (obtain rfl : ff = f := (by omega); rfl)
theorem RGo.start {W0 W : World} {inp : List Int} {Ai : Option Addr} {ci : Nat} {f : Nat} (hf : f ≤ 1000000) (hi : IntsIn W0.heap.size W0 Ai inp) (hci : inp.length ≤ ci) (hil : inp.length ≤ 4096) (hb : Below W0.heap.size W0 W) (hmb : W0.heap.size ≤ mb) (hcb : W0.heap.size ≤ cb) (hne : mb ≠ cb)
 (hm : W.heap[mb]? = some (.cells #[.slice Ai inp.length ci, .int .i64 0, .int .i64 (f : Int), .int .i64 0, .slice none 0 0, .slice none 0 0, .bool false, .bool false, .bool false, .int .i64 0, .int .i64 0, .slice none 0 0] 48 (0, 0))) (hc : W.heap[cb]? = some (.cells #[.pointer (some ⟨mb, 0, none⟩), fv, .slice none 0 0] 79 (0, 0))) :
 RGo (Own2 mb cb) W0.heap.size mb cb fv inp ⟨f, f⟩ (initF f) W where
 hmb := hmb
 hcb := hcb
 hne := hne
 hX := fun k hk => hk
 m := ⟨Ai, ci, none, 0, none, 0, by rw [hm]; simp [initF], hi.below hb, hci, Nat.le_refl _, Nat.le_refl _, ⟨fun a ha => (by cases ha), .inl rfl⟩, .inl rfl⟩
 c := ⟨none, 0, hc, Nat.le_refl _, .inl rfl⟩
 left := Nat.le_refl _
 fuelB := hf
 limB := Nat.le_refl _
 inpB := hil
 askB := by simp [initF]
 outB := by simp [initF]
 celB := by simp [initF]
 fnsB := by simp [initF]
structure PlayOk (p : FlatP) : Prop where
 wf : ∀ g ∈ p.funs, WfA p.funs.length g.body ∧ ShortA g.body
 wm : WfA p.funs.length p.main
 sm : ShortA p.main
def PlayPost (p : FlatP) (inp : List Int) (f : Int) (w : World) (e : Ending) (w' : World) : Prop :=
 ∃ (mb cb : Nat) (fv : Value) (k n : Int) (A : Option Addr) (l d : Nat), e = .returned (.pointer (some ⟨mb, 0, none⟩)) ∧ w.heap.size ≤ mb ∧ Below w.heap.size w w' ∧ OutIn (Own2 mb cb) w.heap.size mb cb fv inp ⟨fuelOf f, fuelOf f⟩ w' (.int .i64 k) (.int .i64 n) (.slice A l d) (runF p inp f)
theorem rplay_any {w : World} (hok : PlayOk p) {v : Array Value} (hin : FlatIn w.heap.size w p v) {Ai : Option Addr} {ci : Nat} (hi : IntsIn w.heap.size w Ai inp) (hci : inp.length ≤ ci) (hil : inp.length ≤ 4096) (f : Int) :
 Calls Tryz.prog 13 #[.agg v, .slice Ai inp.length ci, .int .i64 f] w (PlayPost p inp f w) := by
 obtain ⟨Af, nf, cf, A1, n1, d1, b1, k1, rfl⟩ := hin.shape
 have hin0 := hin
 obtain ⟨Af', cf', bf, of, m0, m1, m2, hv, hcf, h56, hmain, hA, hfun⟩ := hin0
 simp only [Array.mk.injEq, List.cons.injEq, and_true, Value.slice.injEq] at hv
 obtain ⟨⟨rfl, rfl, rfl⟩, rfl, rfl, rfl⟩ := hv
 have hfv : FunsV w.heap.size w p (.slice Af p.funs.length cf) := ⟨Af, cf, bf, of, rfl, hcf, hA, hfun⟩
 clear h56 hfun hA hcf
 obtain ⟨nf, hnf⟩ : ∃ nf, p.funs.length = nf := ⟨_, rfl⟩
 rw [hnf] at hfv hin ⊢
 have hb0 := below_al1 w (.cells #[.slice Af nf cf, .slice A1 n1 d1, .bool b1, .int .i64 k1] 29)
 have hbx := new1 w (.cells #[.slice Af nf cf, .slice A1 n1 d1, .bool b1, .int .i64 k1] 29)
 generalize hV0 : w.alloc (.cells #[.slice Af nf cf, .slice A1 n1 d1, .bool b1, .int .i64 k1] 29) = V0 at *
 have hs0 : w.heap.size < V0.heap.size := (Array.getElem?_eq_some_iff.1 hbx).1
 have HB := Lib.hid ((rbegin_any Ai inp.length ci f V0.drew).mono fun e w2 hp => (show e = .returned (.pointer (some ⟨V0.heap.size, 0, none⟩)) ∧ w2.cell? ⟨w.heap.size, 0, none⟩ = some (.slice Af nf cf) ∧ w.heap.size < w2.heap.size ∧ ((w2.alloc (.cells #[.pointer (some ⟨V0.heap.size, 0, none⟩), .slice Af nf cf, .slice none 0 0] 79)).cell? ⟨w.heap.size, 1, none⟩ = some (.slice A1 n1 d1) ∧ (w2.alloc (.cells #[.pointer (some ⟨V0.heap.size, 0, none⟩), .slice Af nf cf, .slice none 0 0] 79)).cell? ⟨w.heap.size, 2, none⟩ = some (.bool b1) ∧ (w2.alloc (.cells #[.pointer (some ⟨V0.heap.size, 0, none⟩), .slice Af nf cf, .slice none 0 0] 79)).cell? ⟨w.heap.size, 3, none⟩ = some (.int .i64 k1)) ∧
  Calls Tryz.prog 29 #[.pointer (some ⟨w2.heap.size, 0, none⟩), .agg #[.slice A1 n1 d1, .bool b1, .int .i64 k1], .pointer none] (w2.alloc (.cells #[.pointer (some ⟨V0.heap.size, 0, none⟩), .slice Af nf cf, .slice none 0 0] 79)) (fun en w3 => (∃ k n A l d, en = .returned (.agg #[.int .i64 k, .int .i64 n, .slice A l d])) ∧ w3.cell? ⟨w2.heap.size, 0, none⟩ = some (.pointer (some ⟨V0.heap.size, 0, none⟩)) ∧ PlayPost p inp f w (.returned (.pointer (some ⟨V0.heap.size, 0, none⟩))) w3) from by
  obtain ⟨rfl, rfl⟩ := hp
  have hd : Below V0.heap.size V0 V0.drew := (Below.refl _ _).drew
  have hal := below_al1 V0.drew (mObj Ai inp.length ci (fuelOf f : Int))
  have hnm := new1 V0.drew (mObj Ai inp.length ci (fuelOf f : Int))
  have hsz2 : (V0.drew.alloc (mObj Ai inp.length ci (fuelOf f : Int))).heap.size = V0.heap.size + 1 := by rw [World.size_alloc]; rfl
  generalize V0.drew.alloc (mObj Ai inp.length ci (fuelOf f : Int)) = w2 at *
  have hal2 := below_al1 w2 (.cells #[.pointer (some ⟨V0.heap.size, 0, none⟩), .slice Af nf cf, .slice none 0 0] 79)
  have hnr := new1 w2 (.cells #[.pointer (some ⟨V0.heap.size, 0, none⟩), .slice Af nf cf, .slice none 0 0] 79)
  generalize w2.alloc (.cells #[.pointer (some ⟨V0.heap.size, 0, none⟩), .slice Af nf cf, .slice none 0 0] 79) = w3 at *
  have hb2 : Below V0.heap.size V0 w2 := hd.trans hal
  have hb3 : Below V0.heap.size V0 w3 := hb2.trans (hal2.mono hb2.size)
  have hbw : Below w.heap.size w w3 := hb0.trans (hb3.mono hb0.size)
  have x2 := (hb2.block _ hs0).trans hbx
  have x3 := (hb3.block _ hs0).trans hbx
  have hm3 : w3.heap[V0.heap.size]? = _ := (hal2.block V0.heap.size (by omega)).trans hnm
  have hg : RGo (Own2 V0.heap.size w2.heap.size) w.heap.size V0.heap.size w2.heap.size (.slice Af nf cf) inp ⟨fuelOf f, fuelOf f⟩ (initF (fuelOf f)) w3 := RGo.start (fuelOf_le f) hi hci hil hbw (by omega) (by omega) (by omega) hm3 hnr
  have hsz3 := (Array.getElem?_eq_some_iff.1 hnr).1
  refine ⟨rfl, cell_block x2 rfl, by omega, ⟨cell_block x3 rfl, cell_block x3 rfl, cell_block x3 rfl⟩, ?_⟩
  refine (rbody_ok (p := p) (by exact hok.wf) (fuelOf f + 1) (Own2 V0.heap.size w2.heap.size) ⟨fuelOf f, fuelOf f⟩ (initF (fuelOf f)) w3 p.main _ _ _ [] (.pointer none) hg (fun k hk => by rcases hk with hk | hk <;> omega) (hfv.kept hbw) (fun c hc => by simp [initF] at hc) (hmain.kept hbw) (by exact hok.wm) hok.sm .nil (Nat.lt_succ_self _)).mono fun en w4 hp => ?_
  obtain ⟨hst, -, k, n, A, l, d, rfl, ho⟩ := hp
  have hrun : runF p inp f = evF p.funs inp (fuelOf f + 1) p.main [] (initF (fuelOf f)) := by
   unfold runF
   rw [List.take_of_length_le hil]
  rw [← hrun] at ho
  have hmc : w4.cell? ⟨w2.heap.size, 0, none⟩ = some (.pointer (some ⟨V0.heap.size, 0, none⟩)) := by
   generalize runF p inp f = o at ho
   obtain ⟨r, s'⟩ := o
   cases r with
   | val v => exact ho.1.c.ptr
   | raised v => obtain ⟨y0, y1, y2, g1, -⟩ := ho; exact g1.c.ptr
   | stuck => obtain ⟨md, ho⟩ := ho; exact RIn.c ho |>.ptr
   | cut => exact RIn.c ho |>.ptr
  exact ⟨⟨k, n, A, l, d, rfl⟩, hmc, V0.heap.size, w2.heap.size, _, k, n, A, l, d, rfl, by omega, hbw.trans hst.bel, ho⟩))
 have u0 : V0.cell? ⟨w.heap.size, 0, none⟩ = some (.slice Af nf cf) := cell_block hbx rfl
 clear hin hi hci hil hfv hb0 hbx hmain hok
 generalize inp.length = il at *
 go_enter Tryz.func13, Tryz.ntmps13
 go_wp2_with fail
 go_region_law ((first
  | (go_simp; go_at_call 28; refine HB.out.mono ?_; rintro en w2 ⟨rfl, q0, q1, ⟨y1, y2, y3⟩, hT⟩; have HT := Lib.hid hT; clear hT)))
 all_goals
  go_wp2_with (go_at_call 29; refine HT.out.mono ?_; rintro en w3 ⟨⟨k, n, A, l, d, rfl⟩, hmc, hP⟩; have HP := Lib.hid hP; clear hP)
  go_ret
  exact HP.out
end
end Go.Proofs.YtnobggabjpcbfaaGreat
namespace Go.Proofs.YtnobggabjpcbfaaGreat
open Go.RowKit
section
variable {X Y Y' : Nat → Prop} {B mb cb n : Nat} {p : FlatP} {fv : Value} {inp : List Int} {fuel : FL} {s s1 : FSt} {W W' V0 V w w' : World} {o : FOut}
theorem rfrun_any {w : World} (hsm : SmallF p) (heq : r30 p = rightC p) (hok : rightC p = 0 → PlayOk p) {v : Array Value} (hin : FlatIn w.heap.size w p v) {Ai : Option Addr} {ci : Nat} (hi : IntsIn w.heap.size w Ai inp) (hci : inp.length ≤ ci) (hil : inp.length ≤ 4096) (f : Int) :
 Calls Tryz.prog 9 #[.agg v, .slice Ai inp.length ci, .int .i64 f] w (EndIn w.heap.size w (runE p inp f)) := by
 obtain ⟨Af, nf, cf, A1, n1, d1, b1, k1, rfl⟩ := hin.shape
 have hb0 := below_al2 w (.cells #[.slice Af nf cf, .slice A1 n1 d1, .bool b1, .int .i64 k1] 29) (.cells #[.int .i64 0, .int .i64 0, .slice none 0 0, .int .i64 0] 35)
 have hq := ((below_al1 _ (.cells #[.int .i64 0, .int .i64 0, .slice none 0 0, .int .i64 0] 35)).block w.heap.size (by simp)).trans (new1 w (.cells #[.slice Af nf cf, .slice A1 n1 d1, .bool b1, .int .i64 k1] 29))
 have hbx := new2 w (.cells #[.slice Af nf cf, .slice A1 n1 d1, .bool b1, .int .i64 k1] 29) (.cells #[.int .i64 0, .int .i64 0, .slice none 0 0, .int .i64 0] 35)
 generalize hV0 : (w.alloc (.cells #[.slice Af nf cf, .slice A1 n1 d1, .bool b1, .int .i64 k1] 29)).alloc (.cells #[.int .i64 0, .int .i64 0, .slice none 0 0, .int .i64 0] 35) = V0 at *
 have hsz : w.heap.size + 1 < V0.heap.size := (Array.getElem?_eq_some_iff.1 hbx).1
 have HS := Lib.hid (fun (V : World) (hV : Below V0.heap.size V0 V) => (show V.cell? ⟨w.heap.size, 0, none⟩ = some (.slice Af nf cf) ∧ V.cell? ⟨w.heap.size, 1, none⟩ = some (.slice A1 n1 d1) ∧ V.cell? ⟨w.heap.size, 2, none⟩ = some (.bool b1) ∧ V.cell? ⟨w.heap.size, 3, none⟩ = some (.int .i64 k1) ∧ w.heap.size < V.heap.size from by
  have h1 := (hV.block _ (show w.heap.size < V0.heap.size by omega)).trans hq
  have := hV.size
  exact ⟨cell_block h1 rfl, cell_block h1 rfl, cell_block h1 rfl, cell_block h1 rfl, by omega⟩))
 have HRT := Lib.hid (rright_any hsm V0 ((hin.kept hb0).mono hb0.size) (Nat.le_refl _))
 rw [heq] at HRT
 obtain ⟨u0, u1, u2, u3, u4⟩ := HS.out V0 (Below.refl _ _)
 by_cases hr : rightC p = 0
 · have hrun : runE p inp f = endF (fuelOf f) (runF p inp f) := by unfold runE; rw [if_pos hr]
   rw [hrun]
   rw [hr] at HRT
   have HPL := Lib.hid (fun (V : World) (hV : Below V0.heap.size V0 V) => (show Calls Tryz.prog 13 #[.agg #[.slice Af nf cf, .slice A1 n1 d1, .bool b1, .int .i64 k1], .slice Ai inp.length ci, .int .i64 f] V (fun en w3 => ∃ mb, en = .returned (.pointer (some ⟨mb, 0, none⟩)) ∧ Calls Tryz.prog 22 #[.pointer (some ⟨mb, 0, none⟩)] w3 (fun en w5 => ∃ pe A c, pe = endF (fuelOf f) (runF p inp f) ∧ en = .returned (.agg #[.int .i64 pe.kind, .int .i64 pe.n, .slice A pe.out.length c, .int .i64 pe.steps]) ∧ (w5.cell? ⟨w.heap.size + 1, 0, none⟩ = some (.int .i64 0) ∧ w5.cell? ⟨w.heap.size + 1, 1, none⟩ = some (.int .i64 0) ∧ w5.cell? ⟨w.heap.size + 1, 2, none⟩ = some (.slice none 0 0) ∧ w5.cell? ⟨w.heap.size + 1, 3, none⟩ = some (.int .i64 0) ∧ ∀ i, w5.frozen? ⟨w.heap.size + 1, i, none⟩ = false) ∧
    EndIn w.heap.size w pe (.returned (.agg #[.int .i64 pe.kind, .int .i64 pe.n, .slice A pe.out.length c, .int .i64 pe.steps])) ((((w5.setCell ⟨w.heap.size + 1, 0, none⟩ (.int .i64 pe.kind)).setCell ⟨w.heap.size + 1, 1, none⟩ (.int .i64 pe.n)).setCell ⟨w.heap.size + 1, 2, none⟩ (.slice A pe.out.length c)).setCell ⟨w.heap.size + 1, 3, none⟩ (.int .i64 pe.steps)))) from by
    have hbV := hb0.trans (hV.mono hb0.size)
    have hwV := hbV.size
    refine (rplay_any (hok hr) ((hin.kept hbV).mono hwV) ((hi.below hbV).mono hwV) hci hil f).mono fun en w3 hp => ?_
    obtain ⟨mb, cb, fv, k, n, A, l, d, rfl, hmb, hb3, ho⟩ := hp
    refine ⟨mb, rfl, (rend_any ho).mono fun en w5 hp => ?_⟩
    obtain ⟨A', c', rfl, hin', hle', hA', hb5⟩ := hp
    have hb35 : Below V.heap.size V w5 := hb3.trans (hb5.mono hb3.size)
    have hVs := hV.size
    have hb05 : Below V0.heap.size V0 w5 := hV.trans (hb35.mono hVs)
    have hbx5 := (hb05.block _ hsz).trans hbx
    refine ⟨_, A', c', rfl, rfl, ⟨cell_block hbx5 rfl, cell_block hbx5 rfl, cell_block hbx5 rfl, cell_block hbx5 rfl, fun i => by simp [World.frozen?, hbx5]⟩, ⟨A', c', rfl, ?_, hle', fun a ha => by have := hA' a ha; omega, ?_⟩⟩
    · refine ⟨hin'.1, hin'.2.imp id ?_⟩
      rintro ⟨b, o, rfl, hbl, hcj⟩
      have hbge := hA' _ rfl
      have hbne : w.heap.size + 1 ≠ b := by have : V.heap.size ≤ b := hbge; omega
      refine ⟨b, o, rfl, by simpa [World.setCell] using hbl, fun j hj => ?_⟩
      rw [World.cell?_setCell_far _ _ (⟨b, o + j, none⟩ : Addr) _ hbne, World.cell?_setCell_far _ _ (⟨b, o + j, none⟩ : Addr) _ hbne, World.cell?_setCell_far _ _ (⟨b, o + j, none⟩ : Addr) _ hbne, World.cell?_setCell_far _ _ (⟨b, o + j, none⟩ : Addr) _ hbne]
      exact hcj j hj
    · have hbw := hb0.trans (hb05.mono hb0.size)
      exact (((hbw.setCell (p := ⟨w.heap.size + 1, 0, none⟩) (Nat.le_succ _) _).setCell (p := ⟨w.heap.size + 1, 1, none⟩) (Nat.le_succ _) _).setCell (p := ⟨w.heap.size + 1, 2, none⟩) (Nat.le_succ _) _).setCell (p := ⟨w.heap.size + 1, 3, none⟩) (Nat.le_succ _) _))
   obtain ⟨pe0, hpe⟩ : ∃ pe, endF (fuelOf f) (runF p inp f) = pe := ⟨_, rfl⟩
   rw [hpe] at HPL ⊢
   clear hin hi hb0 hq hbx hr hrun hpe hsm hci hil hok heq
   generalize inp.length = il at *
   go_enter Tryz.func9, Tryz.ntmps9
   go_wp2_with (first
    | (go_at_call 12; refine HRT.out.mono ?_; rintro en w1 ⟨rfl, hb1⟩; obtain ⟨v0, v1, v2, v3, v4⟩ := HS.out w1 hb1; have HP1 := Lib.hid (HPL.out w1 hb1); clear hb1)
    | (go_at_call 13; refine HP1.out.mono ?_; rintro en w3 ⟨mb, rfl, hEE⟩; have HEE := Lib.hid hEE; clear hEE)
    | (go_at_call 22; refine HEE.out.mono ?_; rintro en w5 ⟨pe, A', c', rfl, rfl, ⟨f0, f1, f2, f3, ff⟩, hR⟩; have HR := Lib.hid hR; clear hR))
   exact bodyPost_ret (by simp [results, Tryz.results9, go_sem, f0, f1, f2, f3]; try rfl) rfl HR.out
 · have hrun : runE p inp f = ⟨4, 0, [], 0⟩ := by
    unfold runE
    rw [if_neg hr]
   rw [hrun]
   have hr' : (rightC p != 0) = true := by simpa using hr
   have hr2 : (rightC p == 0) = false := by simpa using hr
   have HP := Lib.hid (fun (w1 : World) (hb1 : Below V0.heap.size V0 w1) => (show (w1.cell? ⟨w.heap.size + 1, 0, none⟩ = some (.int .i64 0) ∧ w1.cell? ⟨w.heap.size + 1, 1, none⟩ = some (.int .i64 0) ∧ w1.cell? ⟨w.heap.size + 1, 2, none⟩ = some (.slice none 0 0) ∧ w1.cell? ⟨w.heap.size + 1, 3, none⟩ = some (.int .i64 0) ∧ ∀ i, w1.frozen? ⟨w.heap.size + 1, i, none⟩ = false) ∧ ∀ V, Below w.heap.size w1 V → EndIn w.heap.size w ⟨4, 0, [], 0⟩ (.returned (.agg #[.int .i64 4, .int .i64 0, .slice none 0 0, .int .i64 0])) V from by
    have h1 := (hb1.block _ hsz).trans hbx
    refine ⟨⟨cell_block h1 rfl, cell_block h1 rfl, cell_block h1 rfl, cell_block h1 rfl, fun i => by simp [World.frozen?, h1]⟩, fun V hV => ⟨none, 0, rfl, ⟨by simp, .inl rfl⟩, Nat.le_refl _, fun a ha => (by cases ha), (hb0.trans (hb1.mono hb0.size)).trans hV⟩⟩))
   clear hin hi hb0 hq hbx hr hrun hsm hci hil hok heq
   generalize inp.length = il at *
   generalize rightC p = rr at *
   go_enter Tryz.func9, Tryz.ntmps9
   go_wp2_with (go_at_call 12; refine HRT.out.mono ?_; rintro en w1 ⟨rfl, hb1⟩; obtain ⟨⟨f0, f1, f2, f3, ff⟩, hR⟩ := HP.out w1 hb1; have HR := Lib.hid hR; clear hR hb1)
   refine bodyPost_ret (v := .agg #[.int .i64 4, .int .i64 0, .slice none 0 0, .int .i64 0]) (by simp [results, Tryz.results9, go_sem, f0, f1, f2, f3]; try rfl) rfl (HR.out _ ?_)
   repeat (first | exact Below.refl _ _ | exact Nat.le_succ _ | refine Below.setCell ?_ ?_ _)
end
end Go.Proofs.YtnobggabjpcbfaaGreat
namespace Go.Proofs.YtnobggabjpcbfaaGreat
open Go.RowKit
mutual
theorem dpN_parts : ∀ t : Anf, 2 * dpN t ≤ partsA t
 | .ret _ => by simp [dpN, partsA]
 | .bind _ _ _ ats ks bl r => by
  have h1 := dpL_parts bl
  have h2 := dpN_parts r
  simp only [dpN, partsA]
  omega
theorem dpL_parts : ∀ l : List Anf, 2 * dpL l ≤ partsLA l + 1
 | [] => by simp [dpL, partsLA]
 | c :: cs => by
  have h1 := dpN_parts c
  have h2 := dpL_parts cs
  simp only [dpL, partsLA]
  omega
end
mutual
theorem short_parts : ∀ t : Anf, partsA t ≤ 3000 → ShortA t
 | .ret a, _ => .ret a
 | .bind x k n ats ks bl r, h => by
  simp only [partsA] at h
  exact .bind (by omega) (by omega) (shortL_parts bl (by omega)) (short_parts r (by omega))
theorem shortL_parts : ∀ l : List Anf, partsLA l ≤ 3000 → ∀ c ∈ l, ShortA c
 | [], _, c, hc => by simp at hc
 | a :: l, h, c, hc => by
  simp only [partsLA] at h
  rcases List.mem_cons.1 hc with hc | hc
  · rw [hc]; exact short_parts a (by omega)
  · exact shortL_parts l (by omega) c hc
end
theorem fewN_partsF : ∀ (l : List FFun) (n : Int), 0 ≤ n → fewN l n < 700 → (∀ g ∈ l, (partsA g.body : Int) < 700) ∧ (szFuns l : Int) < 700
 | [], n, _, _ => ⟨by simp, by simp [szFuns]⟩
 | g :: gs, n, h0, h => by
  have hall := fewN_all (g :: gs) n h
  unfold fewN at h
  split at h
  · have h1 := fewN_ge gs (n + (1 + nodesA g.body (700 - n) 1))
    have h2 := nodesA_all g.body (700 - n) 1 (by omega)
    have h4 := nodesA_ge g.body (700 - n) 1
    have h3 := fewN_partsF gs _ (by omega) h
    refine ⟨fun x hx => ?_, ?_⟩
    · rcases List.mem_cons.1 hx with rfl | hx
      · omega
      · exact h3.1 x hx
    · have h5 : fewN (g :: gs) n < 700 := by unfold fewN; rw [if_pos (by assumption)]; exact h
      omega
  · have h5 : fewN (g :: gs) n = n := by unfold fewN; rw [if_neg (by assumption)]
    omega
theorem few_partsF {p : FlatP} {inp : List Int} (h : fewF p inp = true) : (partsA p.main : Int) < 700 ∧ (∀ g ∈ p.funs, (partsA g.body : Int) < 700) ∧ (szFuns p.funs : Int) < 700 ∧ inp.length ≤ 60 := by
 simp only [fewF, decide_eq_true_eq] at h
 obtain ⟨h, hi⟩ := h
 have h2 := fewN_ge p.funs (nodesA p.main 700 1)
 have h3 := nodesA_all p.main 700 1 (by omega)
 have h4 := nodesA_ge p.main 700 1
 obtain ⟨h5, h6⟩ := fewN_partsF p.funs _ (by omega) h
 exact ⟨by omega, h5, h6, hi⟩
theorem dpF_le_ {m : Nat} : ∀ (l : List FFun) (k : Nat), k ≤ m → (∀ g ∈ l, dpN g.body + 1 ≤ m) → dpF l k ≤ m
 | [], k, h, _ => h
 | g :: gs, k, h, hg => by
  simp only [dpF]
  have := hg g (by simp)
  exact dpF_le_ gs _ (by omega) (fun x hx => hg x (by simp [hx]))
theorem r30_eq {p : FlatP} {inp : List Int} (h : fewF p inp = true) : r30 p = rightC p := by
 obtain ⟨h1, h2, h3, -⟩ := few_partsF h
 have d1 := dpN_parts p.main
 have d2 : ∀ g ∈ p.funs, dpN g.body + 1 ≤ 351 := fun g hg => by
  have := dpN_parts g.body
  have := h2 g hg
  omega
 have t1 := totA_le p.main
 have t2 := totF_le p.funs
 have t3 := szA_parts p.main
 have hd := dpF_le_ (m := 351) p.funs (dpN p.main + 1) (by omega) d2
 have hl : longB (allB p) 0 = false := by
  refine longB_no _ _ (fun a ha => ?_) ?_
  · simp only [allB, List.mem_append, List.mem_map, List.mem_singleton] at ha
    rcases ha with ⟨g, hg, rfl⟩ | rfl
    · have := d2 g hg; omega
    · omega
  · unfold allB
    rw [List.map_append, List.sum_append, totF_sum]
    simp only [List.map_cons, List.map_nil, List.sum_cons, List.sum_nil]
    omega
 have hl' : longB (p.funs.map (·.body) ++ [p.main]) 0 = false := hl
 unfold r30 rightC
 rw [if_neg (show ¬ (65536 < totA p.main + totF p.funs ∨ 400 < dpF p.funs (dpN p.main + 1)) by omega), hl']
 simp
theorem play_ok {p : FlatP} {inp : List Int} (h : fewF p inp = true) (hr : rightC p = 0) : PlayOk p := by
 obtain ⟨h1, h2, h3, -⟩ := few_partsF h
 obtain ⟨w1, w2⟩ := wf_of_rightC hr
 exact ⟨fun g hg => ⟨w1 g hg, short_parts _ (by have := h2 g hg; omega)⟩, w2, short_parts _ (by omega)⟩
theorem rrun_ready {w : World} {p : FlatP} {v : Array Value} (hin : FlatIn w.heap.size w p v) (hsm : SmallF p) {inp : List Int} (hfw : fewF p inp = true) {Ai : Option Addr} {ci : Nat} (hi : IntsIn w.heap.size w Ai inp) (hci : inp.length ≤ ci) (f : Int) :
 Calls Tryz.prog 9 #[.agg v, .slice Ai inp.length ci, .int .i64 f] w (RunPost (runE p inp f) w) := by
 refine (rfrun_any hsm (r30_eq hfw) (play_ok hfw) hin hi hci (by have := (few_partsF hfw).2.2.2; omega) f).mono fun e w' ⟨A, c, h1, h2, h3, h4, h5⟩ => ⟨_, A, c, rfl, h1, ⟨A, c, rfl, h2⟩, h5, h4⟩
end Go.Proofs.YtnobggabjpcbfaaGreat
namespace Go.Proofs.YtnobggabjpcbfaaGreat
open Go.RowKit
def rightEnd (p : PEnd) : Prop := 1 ≤ p.kind ∧ p.kind ≤ 6 ∧ 0 ≤ p.n ∧ (0 < p.n → p.kind = 2) ∧ ∀ x ∈ p.out, wrap31 x = x
theorem right02_any (p : PEnd) (hp : rightEnd p) (w : World) {A : Option Addr} {c : Nat} (hi : IntsIn w.heap.size w A p.out) :
 Calls Tryz.prog 11 #[.agg #[.int .i64 p.kind, .int .i64 p.n, .slice A p.out.length c, .int .i64 p.steps]] w (BoolBelow true w) := by
 obtain ⟨hk1, hk2, hn, hkn, hout⟩ := hp
 have hl := hi.1
 have hb0 : Below w.heap.size w (w.alloc (.cells #[.int .i64 p.kind, .int .i64 p.n, .slice A p.out.length c, .int .i64 p.steps] 35)) := (Below.refl _ _).alloc (Nat.le_refl _) _
 have hnw : (w.alloc (.cells #[.int .i64 p.kind, .int .i64 p.n, .slice A p.out.length c, .int .i64 p.steps] 35)).heap[w.heap.size]? = _ := World.alloc_heap_new _ _
 have hi0 := hi.below hb0
 have HO := Lib.hid (fun j (hj : j < p.out.length) => (show wrap31 (nth p.out j) = nth p.out j from hout _ (nth_mem _ hj)))
 have HB := Lib.hid hb0
 generalize hV : (w.alloc (.cells #[.int .i64 p.kind, .int .i64 p.n, .slice A p.out.length c, .int .i64 p.steps] 35)) = V at *
 have q0 : V.cell? ⟨w.heap.size, 0, none⟩ = some (.int .i64 p.kind) := by simp [World.cell?, hnw]
 have q1 : V.cell? ⟨w.heap.size, 1, none⟩ = some (.int .i64 p.n) := by simp [World.cell?, hnw]
 have q2 : V.cell? ⟨w.heap.size, 2, none⟩ = some (.slice A p.out.length c) := by simp [World.cell?, hnw]
 have q3 : V.cell? ⟨w.heap.size, 3, none⟩ = some (.int .i64 p.steps) := by simp [World.cell?, hnw]
 have e1 : ¬ p.kind < 1 := by omega
 have e2 : ¬ 6 < p.kind := by omega
 have e3 : ¬ p.n < 0 := by omega
 have e4 : ¬ (p.steps : Int) < 0 := by omega
 have HI := Lib.hid (And.intro hi0 hl)
 clear hi hout hb0 hnw hi0
 have hkb : 0 < p.n → (p.kind != 2) = false := fun h => by simp [hkn h]
 generalize p.kind = pk at *
 generalize p.n = pn at *
 generalize p.steps = ps at *
 generalize p.out = out at *
 clear hkn hk1 hk2 hn
 by_cases hp0 : 0 < pn
 all_goals
  first
   | (have hkc := hkb hp0; clear hkb)
   | clear hkb
  go_enter Tryz.func11, Tryz.ntmps11
  go_wp2_with fail
  go_loopw [3] (fun i wr => ∃ j : Nat, j ≤ out.length ∧ i = .int .i64 (j : Int) ∧ Hid (Below V.heap.size V wr)) (fun i _ => out.length - (intOf i).toNat)
  case atStart => exact ⟨0, by omega, rfl, Lib.hid (Below.refl _ _)⟩
  case round =>
   obtain ⟨j, hj, rfl, HW⟩ := hrel
   have r2 := cell_behind HW.out q2
   by_cases hlt : j < out.length
   · have hiw := HI.out.1.below (HW.out.mono HB.out.size)
     obtain ⟨b, o, rfl, hb, hcj⟩ := hiw.at_ (by omega)
     have hcc := hcj j hlt
     have hx := HO.out j hlt
     have hj0 : (0 : Int) ≤ (j : Int) := by omega
     have hjl : (j : Int) < (out.length : Int) := by omega
     have hlo : out.length ≤ 20000000000000 := by have := HI.out.2; omega
     have hw1 : IntKind.i64.wrap ((j : Int) + 1) = (j : Int) + 1 := by rw [IntKind.wrap_i64]; omega
     have HWR := Lib.hid (fun (v : World) => (show Calls Tryz.prog 23 #[.int .i64 (nth out j)] v fun e w' => e = .returned (.int .i64 (nth out j)) ∧ w' = v from (rwrap_any (nth out j) v).mono fun e w' h => ⟨by rw [h.1, hx], h.2.symm⟩))
     clear hiw hcj hx
     generalize nth out j = x at *
     go_wp2_with fail
     go_quiet ((go_at_call 23; exact Calls.quiet_of_same (HWR.out _)))
     go_wp2_with fail
     go_roundw
     case rel => exact ⟨j + 1, by omega, by go_num, Lib.hid (by first | exact below_drewN HW.out _ | exact HW.out.drew | exact (below_drewN HW.out _).drew)⟩
     case measure => simp [intOf]; omega
   · have hjl : ¬ (j : Int) < (out.length : Int) := by omega
     have HP := Lib.hid (HB.out.trans (HW.out.mono HB.out.size))
     go_wp2_with fail
     go_ret
     exact ⟨rfl, HP.out⟩
end Go.Proofs.YtnobggabjpcbfaaGreat
