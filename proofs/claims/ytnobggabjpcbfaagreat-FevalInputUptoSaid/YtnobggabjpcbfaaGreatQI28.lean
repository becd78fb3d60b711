/-
 4 texts of this seat in one: FV28 FV29 FV30 FV31.
-/
import Derived.Test.YtnobggabjpcbfaaGreatQI27
set_option maxRecDepth 100000
set_option maxHeartbeats 16000000
set_option linter.unusedVariables false
set_option linter.unusedSimpArgs false
namespace Go.Proofs.YtnobggabjpcbfaaGreat
open Go.RowKit
section
variable {X Y : Nat → Prop} {B mb cb n : Nat} {p : FlatP} {fv : Value} {inp : List Int} {fuel : FL} {s s1 : FSt} {cut stk rai : Bool} {x0 x1 x2 : Value} {W W' W1 W2 V0 w : World} {o : FOut}
theorem rcall_fn (hok : RBodyOk p B mb cb fv inp n) (hwf : ∀ g ∈ p.funs, WfA p.funs.length g.body ∧ ShortA g.body) (h : RGo X B mb cb fv inp fuel s W) (hX : ∀ k, X k → k < W.heap.size) (hfv : FunsV B W p fv) (hmd : MadeIn p.funs.length s) {i : Nat} (hi : i < s.made.length) {a : PV} {a0 a1 a2 : Value} (ha : VIn X s.made.length s.cells.length W a a0 a1 a2) (hl : s.left ≠ 0) (hn : s.left ≤ n) :
 Calls Tryz.prog 70 #[.pointer (some ⟨cb, 0, none⟩), .agg #[.int .i64 3, .int .i64 (i : Int), .slice none 0 0], .agg #[a0, a1, a2]] W (ROut X B mb cb fv inp fuel s (callF p.funs (evF p.funs inp n) (.fn i) a s) W) := by
 obtain ⟨k2, n2, A2, l2, d2, rfl, rfl, rfl⟩ := ha.shape
 generalize hV0 : (((W.alloc (.cells #[.int .i64 3, .int .i64 (i : Int), .slice none 0 0] 46)).alloc (.cells #[.int .i64 k2, .int .i64 n2, .slice A2 l2 d2] 46)).alloc (.cells #[.int .i64 0, .int .i64 0, .slice none 0 0] 46)) = V0
 obtain ⟨hb0, hq1, hq2, hbx, hg0, hsz⟩ := frameVV h _ _ _ _ _ _ V0 hV0
 have ha0 := (ha.bx (b := W.heap.size + 1 + 1) (by omega)).step (KpX.below hb0) (Nat.le_refl _) (Nat.le_refl _)
 have hlt := own_lt h
 have hno : ∀ b, W.heap.size ≤ b → ¬ Own2 mb cb b := fun b hb e => by rcases e with e | e <;> omega
 have hfv0 := hfv.kept (hb0.mono h.hBW)
 have hlm := h.limB
 have hal := h.askB
 obtain ⟨o, ho⟩ : ∃ o, callF p.funs (evF p.funs inp n) (.fn i) a s = o := ⟨_, rfl⟩
 rw [ho]
 have HS := Lib.hid ((rstep_any hg0).mono fun e w (hp : StepPostR (Bx X (W.heap.size + 1 + 1)) B mb cb fv inp fuel s V0 e w) => (show e = .returned (.bool true) ∧ ∃ (j : Nat) (bm om cm bf of cf : Nat) (A : Option Addr) (l c : Nat) (lv : Bool) (ln : Int) (ev pr : Int), j < p.funs.length ∧ w.cell? ⟨cb, 0, none⟩ = some (.pointer (some ⟨mb, 0, none⟩)) ∧ w.cell? ⟨cb, 1, none⟩ = some (.slice (some ⟨bf, of, none⟩) p.funs.length cf) ∧ w.cell? ⟨cb, 2, none⟩ = some (.slice (some ⟨bm, om, none⟩) s.made.length cm) ∧
  w.cell? ⟨bm, om + i * 2, none⟩ = some (.int .i64 (j : Int)) ∧ w.cell? ⟨bf, of + j * 5, none⟩ = some (.int .i64 ev) ∧ w.cell? ⟨bf, of + j * 5 + 1, none⟩ = some (.int .i64 pr) ∧ w.cell? ⟨bf, of + j * 5 + 2, none⟩ = some (.slice A l c) ∧
  w.cell? ⟨bf, of + j * 5 + 3, none⟩ = some (.bool lv) ∧ w.cell? ⟨bf, of + j * 5 + 4, none⟩ = some (.int .i64 ln) ∧ w.cell? ⟨W.heap.size, 0, none⟩ = some (.int .i64 3) ∧ w.cell? ⟨W.heap.size, 1, none⟩ = some (.int .i64 (i : Int)) ∧ w.cell? ⟨W.heap.size, 2, none⟩ = some (.slice none 0 0) ∧
  w.cell? ⟨W.heap.size + 1, 0, none⟩ = some (.int .i64 k2) ∧ w.cell? ⟨W.heap.size + 1, 1, none⟩ = some (.int .i64 n2) ∧ w.cell? ⟨W.heap.size + 1, 2, none⟩ = some (.slice A2 l2 d2) ∧
  (∀ V, Below w.heap.size w V → Calls Tryz.prog 29 #[.pointer (some ⟨cb, 0, none⟩), .agg #[.slice A l c, .bool lv, .int .i64 ln], .pointer (some ⟨V.heap.size + 1, 0, none⟩)] ((V.alloc (.cells #[.int .i64 ev, .int .i64 3, .int .i64 (i : Int), .slice none 0 0, .pointer none] 109)).alloc (.cells #[.int .i64 pr, .int .i64 k2, .int .i64 n2, .slice A2 l2 d2, .pointer (some ⟨V.heap.size, 0, none⟩)] 109)) fun e w' =>
   ∃ k n A l d, e = .returned (.agg #[.int .i64 k, .int .i64 n, .slice A l d]) ∧ (w'.cell? ⟨W.heap.size + 1 + 1, 0, none⟩ = some (.int .i64 0) ∧ w'.cell? ⟨W.heap.size + 1 + 1, 1, none⟩ = some (.int .i64 0) ∧ w'.cell? ⟨W.heap.size + 1 + 1, 2, none⟩ = some (.slice none 0 0) ∧ (∀ i, w'.frozen? ⟨W.heap.size + 1 + 1, i, none⟩ = false)) ∧
    ROut X B mb cb fv inp fuel s o W (.returned (.agg #[.int .i64 k, .int .i64 n, .slice A l d])) (((w'.setCell ⟨W.heap.size + 1 + 1, 0, none⟩ (.int .i64 k)).setCell ⟨W.heap.size + 1 + 1, 1, none⟩ (.int .i64 n)).setCell ⟨W.heap.size + 1 + 1, 2, none⟩ (.slice A l d))) from by
  obtain ⟨hst, ⟨h0, _⟩ | ⟨_, rfl, hg⟩⟩ := hp
  · exact absurd h0 hl
  refine ⟨rfl, ?_⟩
  have hfvw := hfv0.kept hst.bel
  obtain ⟨j, bm, om, cm, bf, of, cf, A, l, c, lv, ln, e1, hj, r1, r2, r3, r4, r5, r6, r7, r8, hbd⟩ := call_reads hg hfvw (show MadeIn p.funs.length _ from hmd) hi
  have b1 := hst.kp.same _ _ hq1 rfl (hno _ (Nat.le_refl _))
  have b2 := hst.kp.same _ _ hq2 rfl (hno _ (by omega))
  have b3 := hst.kp.same _ _ hbx rfl (hno _ (by omega))
  refine ⟨j, bm, om, cm, bf, of, cf, A, l, c, lv, ln, _, _, hj, hg.c.ptr, r1, r2, r3, r4, r5, r6, r7, r8, cell_block b1 rfl, cell_block b1 rfl, cell_block b1 rfl, cell_block b2 rfl, cell_block b2 rfl, cell_block b2 rfl, fun V hV => ?_⟩
  have hXO : ∀ k, Own2 mb cb k → Bx X (W.heap.size + 1 + 1) k := fun k hk => .inl (h.hX k hk)
  have hVV := hV.trans ((below_al2 V (.cells #[.int .i64 (p.funs[j]?.getD default).env, .int .i64 3, .int .i64 (i : Int), .slice none 0 0, .pointer none] 109) (.cells #[.int .i64 (p.funs[j]?.getD default).param, .int .i64 k2, .int .i64 n2, .slice A2 l2 d2, .pointer (some ⟨V.heap.size, 0, none⟩)] 109)).mono hV.size)
  have hksx := KpX.below (X := Bx X (W.heap.size + 1 + 1)) hVV
  have hvs := hV.size
  have hws := hst.kp.size
  have hg2 := hg.below hVV
  have hmem : (p.funs[j]?.getD default) ∈ p.funs := by simp [hj]
  obtain ⟨hw1, hw2⟩ := hwf _ hmem
  have haw := (ha0.step (hst.kp.mono hXO) (Nat.le_refl _) (Nat.le_refl _)).step hksx (Nat.le_refl _) (Nat.le_refl _)
  have n1 : ((V.alloc (.cells #[.int .i64 (p.funs[j]?.getD default).env, .int .i64 3, .int .i64 (i : Int), .slice none 0 0, .pointer none] 109)).alloc (.cells #[.int .i64 (p.funs[j]?.getD default).param, .int .i64 k2, .int .i64 n2, .slice A2 l2 d2, .pointer (some ⟨V.heap.size, 0, none⟩)] 109)).heap[V.heap.size]? = some (.cells #[.int .i64 (p.funs[j]?.getD default).env, .int .i64 3, .int .i64 (i : Int), .slice none 0 0, .pointer none] 109 (0, 0)) := ((below_al1 _ _).block V.heap.size (by simp)).trans (new1 V _)
  have n2' := new2 V (.cells #[.int .i64 (p.funs[j]?.getD default).env, .int .i64 3, .int .i64 (i : Int), .slice none 0 0, .pointer none] 109) (.cells #[.int .i64 (p.funs[j]?.getD default).param, .int .i64 k2, .int .i64 n2, .slice A2 l2 d2, .pointer (some ⟨V.heap.size, 0, none⟩)] 109)
  have hnx : ∀ q, V.heap.size ≤ q → ¬ Bx X (W.heap.size + 1 + 1) q := fun q hq hx => by
   rcases hx with hx | hx
   · have := hX _ hx; omega
   · omega
  have henv : EIn (Bx X (W.heap.size + 1 + 1)) s.made.length s.cells.length ((V.alloc (.cells #[.int .i64 (p.funs[j]?.getD default).env, .int .i64 3, .int .i64 (i : Int), .slice none 0 0, .pointer none] 109)).alloc (.cells #[.int .i64 (p.funs[j]?.getD default).param, .int .i64 k2, .int .i64 n2, .slice A2 l2 d2, .pointer (some ⟨V.heap.size, 0, none⟩)] 109)) [((p.funs[j]?.getD default).param, a), ((p.funs[j]?.getD default).env, .fn i)] (.pointer (some ⟨V.heap.size + 1, 0, none⟩)) :=
   EIn.cons _ _ _ (V.heap.size + 1) _ _ _ _ (hnx _ (by omega)) (cell_block n2' rfl) (cell_block n2' rfl) (cell_block n2' rfl) (cell_block n2' rfl) (cell_block n2' rfl) haw
    (EIn.cons _ _ _ V.heap.size _ _ _ _ (hnx _ (Nat.le_refl _)) (cell_block n1 rfl) (cell_block n1 rfl) (cell_block n1 rfl) (cell_block n1 rfl) (cell_block n1 rfl) (.fn i hi) .nil)
  have hbB : Below B w _ := hVV.mono hg.hBW
  have hcall : callF p.funs (evF p.funs inp n) (.fn i) a s = evF p.funs inp n (p.funs[j]?.getD default).body [((p.funs[j]?.getD default).param, a), ((p.funs[j]?.getD default).env, .fn i)] s.dec := by
   simp [callF, List.getElem?_eq_getElem hi, e1, List.getElem?_eq_getElem hj, hl]
  have ht := hok (Bx X (W.heap.size + 1 + 1)) fuel.dec s.dec _ (p.funs[j]?.getD default).body _ _ _ _ _ hg2 (fun k hk => by
   have := hVV.size
   rcases hk with hk | hk
   · have := hX k hk; omega
   · omega) (hfvw.kept hbB) (show MadeIn p.funs.length _ from hmd) (hbd.kept hbB) hw1 hw2 henv (by show s.left - 1 < n; omega)
  rw [← hcall, ho] at ht
  refine ht.mono fun e' w' hp => ?_
  have hp2 : ROut (Bx X (W.heap.size + 1 + 1)) B mb cb fv inp fuel s o _ e' w' := ROut.upd (fuel := fuel) ⟨hp.1, hp.2.1, hp.2.2⟩ (by omega) hlm
  exact ROut.box (X := X) (W := W) (b := W.heap.size + 1 + 1) h.hX h.hBW (own_lt h) (by omega) ((hVV.block _ (by omega)).trans b3) (((Stp.below hb0 h.hBW).trans hst).trans (Stp.below hVV hg.hBW)) ⟨Nat.le_refl _, Nat.le_refl _⟩ hp2))
 have u0 : V0.cell? ⟨W.heap.size, 0, none⟩ = some (.int .i64 3) := cell_block hq1 rfl
 have mc := hg0.c.ptr
 have hi0 : (0 : Int) ≤ (i : Int) := by omega
 have hil : (i : Int) < (s.made.length : Int) := by omega
 clear h ha hb0 hq1 hq2 hbx hg0 ha0 hok hwf hX hfv hmd hfv0 ho hl hn hlm hal hno
 generalize s.made.length = kl at *
 generalize p.funs.length = F at *
 have hs1 : W.heap.size < V0.heap.size := by omega
 clear hi
 go_enter Tryz.func70, Tryz.ntmps70
 go_wp2_with (first
  | (go_at_call 47; refine HS.out.mono ?_; rintro en w ⟨rfl, j, bm, om, cm, bf, of, cf, A, l, c, lv, ln, ev, pr, hj, m0, m1, m2, r0, r1, r2, r3, r4, r5, q0, q1, q2, v0, v1, v2, hT⟩; have HT := Lib.hid hT; clear hT; have hj0 : (0 : Int) ≤ (j : Int) := (by omega); have hjl : (j : Int) < (F : Int) := (by omega); have hs2 := lt_of_cell r0; have hs3 := lt_of_cell r1; have hs4 := lt_of_cell m0; have hs5 := lt_of_cell q0; have hs6 := lt_of_cell v0))
 go_region
 all_goals
  have hnb := new1 w (.cells #[.int .i64 ev, .int .i64 pr, .slice A l c, .bool lv, .int .i64 ln] 54)
  have hbv : Below w.heap.size w (w.alloc (.cells #[.int .i64 ev, .int .i64 pr, .slice A l c, .bool lv, .int .i64 ln] 54)).drew := (below_al1 w _).drew
  have w0 := cell_behind hbv q0
  have w1 := cell_behind hbv q1
  have w2 := cell_behind hbv q2
  have w3 := cell_behind hbv v0
  have w4 := cell_behind hbv v1
  have w5 := cell_behind hbv v2
  have t0 : (w.alloc (.cells #[.int .i64 ev, .int .i64 pr, .slice A l c, .bool lv, .int .i64 ln] 54)).drew.cell? ⟨w.heap.size, 0, none⟩ = some (.int .i64 ev) := cell_block hnb rfl
  have t1 : (w.alloc (.cells #[.int .i64 ev, .int .i64 pr, .slice A l c, .bool lv, .int .i64 ln] 54)).drew.cell? ⟨w.heap.size, 1, none⟩ = some (.int .i64 pr) := cell_block hnb rfl
  have t2 : (w.alloc (.cells #[.int .i64 ev, .int .i64 pr, .slice A l c, .bool lv, .int .i64 ln] 54)).drew.cell? ⟨w.heap.size, 2, none⟩ = some (.slice A l c) := cell_block hnb rfl
  have t3 : (w.alloc (.cells #[.int .i64 ev, .int .i64 pr, .slice A l c, .bool lv, .int .i64 ln] 54)).drew.cell? ⟨w.heap.size, 3, none⟩ = some (.bool lv) := cell_block hnb rfl
  have t4 : (w.alloc (.cells #[.int .i64 ev, .int .i64 pr, .slice A l c, .bool lv, .int .i64 ln] 54)).drew.cell? ⟨w.heap.size, 4, none⟩ = some (.int .i64 ln) := cell_block hnb rfl
  have HTT := Lib.hid (HT.out _ hbv)
  clear hnb hbv HT HS hV0 q0 q1 q2 v0 v1 v2 m0 m1 m2 r0 r1 r2 r3 r4 r5 u0 mc
  generalize (w.alloc (.cells #[.int .i64 ev, .int .i64 pr, .slice A l c, .bool lv, .int .i64 ln] 54)).drew = V at *
  go_wp2_with (go_at_call 29; refine HTT.out.mono ?_; rintro e w' ⟨k, n, A, l, d, rfl, ⟨f0, f1, f2, ff⟩, hR⟩; have HR := Lib.hid hR; clear hR)
  exact bodyPost_ret (v := .agg #[.int .i64 k, .int .i64 n, .slice A l d]) (by simp [results, Tryz.results70, go_sem, f0, f1, f2]) rfl HR.out
theorem rcall_any (hok : RBodyOk p B mb cb fv inp n) (hwf : ∀ g ∈ p.funs, WfA p.funs.length g.body ∧ ShortA g.body) (h : RGo X B mb cb fv inp fuel s W) (hX : ∀ k, X k → k < W.heap.size) (hfv : FunsV B W p fv) (hmd : MadeIn p.funs.length s) {f a : PV} {f0 f1 f2 a0 a1 a2 : Value} (hf : VIn X s.made.length s.cells.length W f f0 f1 f2) (ha : VIn X s.made.length s.cells.length W a a0 a1 a2) (hn : s.left ≤ n) :
 Calls Tryz.prog 70 #[.pointer (some ⟨cb, 0, none⟩), .agg #[f0, f1, f2], .agg #[a0, a1, a2]] W (ROut X B mb cb fv inp fuel s (callF p.funs (evF p.funs inp n) f a s) W) := by
 by_cases hfn : ∃ i, f = .fn i
 · obtain ⟨i, rfl⟩ := hfn
   cases hf with
   | fn i hi =>
    by_cases hl : s.left = 0
    · have : callF p.funs (evF p.funs inp n) (.fn i) a s = (.cut, s) := by simp [callF, hl]
      rw [this]
      exact rcall_cut h hi ha hl
    · exact rcall_fn hok hwf h hX hfv hmd hi ha hl hn
 · exact rcall_no h hf ha (fun i e => hfn ⟨i, e⟩) _
end
end Go.Proofs.YtnobggabjpcbfaaGreat
namespace Go.Proofs.YtnobggabjpcbfaaGreat
open Go.RowKit
section
variable {X Y : Nat → Prop} {B mb cb n : Nat} {p : FlatP} {fv : Value} {inp : List Int} {fuel : FL} {s s1 : FSt} {cut stk rai : Bool} {x0 x1 x2 : Value} {W W' W1 W2 V0 w : World} {o : FOut}
theorem frameR (h : RGo X B mb cb fv inp fuel s W) (hX : ∀ k, X k → k < W.heap.size) {k nn : Int} {ats : List Atm} {Aa Ak Al : Option Addr} {ca lk ck lb cbl : Nat} {e : PEnv} {pv : Value} (he : EIn X s.made.length s.cells.length W e pv) (ha : AtomsIn B W Aa ats) (hs : ats.length ≤ 1000000)
 (V0 : World) (hV0 : (W.alloc (.cells #[.int .i64 k, .int .i64 nn, .slice Aa ats.length ca, .slice Ak lk ck, .slice Al lb cbl] 60)).alloc (.cells #[.int .i64 0, .int .i64 0, .slice none 0 0] 46) = V0) :
 Below W.heap.size W V0 ∧ V0.heap[W.heap.size]? = some (.cells #[.int .i64 k, .int .i64 nn, .slice Aa ats.length ca, .slice Ak lk ck, .slice Al lb cbl] 60 (0, 0)) ∧ V0.heap[W.heap.size + 1]? = some (.cells #[.int .i64 0, .int .i64 0, .slice none 0 0] 46 (0, 0)) ∧
  RGo (Bx X (W.heap.size + 1)) B mb cb fv inp fuel s V0 ∧ W.heap.size + 1 < V0.heap.size ∧ (∀ k, Bx X (W.heap.size + 1) k → k < V0.heap.size) ∧ EIn (Bx X (W.heap.size + 1)) s.made.length s.cells.length V0 e pv ∧
  Calls Tryz.prog 52 #[.slice Aa ats.length ca, pv] V0 (AtPost (Bx X (W.heap.size + 1)) s.made.length s.cells.length V0 (atomsP e ats)) := by
 have hb := below_al2 W (.cells #[.int .i64 k, .int .i64 nn, .slice Aa ats.length ca, .slice Ak lk ck, .slice Al lb cbl] 60) (.cells #[.int .i64 0, .int .i64 0, .slice none 0 0] 46)
 rw [hV0] at hb
 have h1 : V0.heap[W.heap.size + 1]? = some (.cells #[.int .i64 0, .int .i64 0, .slice none 0 0] 46 (0, 0)) := by rw [← hV0]; exact new2 _ _ _
 have h0 : V0.heap[W.heap.size]? = some (.cells #[.int .i64 k, .int .i64 nn, .slice Aa ats.length ca, .slice Ak lk ck, .slice Al lb cbl] 60 (0, 0)) := by
  rw [← hV0]
  exact ((below_al1 _ _).block W.heap.size (by simp)).trans (new1 _ _)
 have hsz := (Array.getElem?_eq_some_iff.1 h1).1
 have hg := (RIn.bx (b := W.heap.size + 1) h (by omega)).below hb
 have hXV : ∀ k, Bx X (W.heap.size + 1) k → k < V0.heap.size := fun k hk => by
  rcases hk with hk | hk
  · have := hX k hk; omega
  · omega
 have hE := (he.bx (b := W.heap.size + 1) (by omega)).step (KpX.below hb) (Nat.le_refl _) (Nat.le_refl _)
 exact ⟨hb, h0, h1, hg, hsz, hXV, hE, ratoms_any hXV hE ((ha.below (hb.mono h.hBW)).mono hg.hBW) hs⟩
theorem frameR_box (h : RGo X B mb cb fv inp fuel s W) (hb0 : Below W.heap.size W V0) (hbx : V0.heap[W.heap.size + 1]? = some (.cells #[.int .i64 0, .int .i64 0, .slice none 0 0] 46 (0, 0))) (hw : Below V0.heap.size V0 w) {fuel' : FL} {e : Ending} (hp : ROut (Bx X (W.heap.size + 1)) B mb cb fv inp fuel' s o w e W') :
 ∃ k n A l d, e = .returned (.agg #[.int .i64 k, .int .i64 n, .slice A l d]) ∧ (W'.cell? ⟨W.heap.size + 1, 0, none⟩ = some (.int .i64 0) ∧ W'.cell? ⟨W.heap.size + 1, 1, none⟩ = some (.int .i64 0) ∧ W'.cell? ⟨W.heap.size + 1, 2, none⟩ = some (.slice none 0 0) ∧ (∀ i, W'.frozen? ⟨W.heap.size + 1, i, none⟩ = false)) ∧
  ROut X B mb cb fv inp fuel' s o W (.returned (.agg #[.int .i64 k, .int .i64 n, .slice A l d])) (((W'.setCell ⟨W.heap.size + 1, 0, none⟩ (.int .i64 k)).setCell ⟨W.heap.size + 1, 1, none⟩ (.int .i64 n)).setCell ⟨W.heap.size + 1, 2, none⟩ (.slice A l d)) :=
 ROut.box (X := X) (W := W) (b := W.heap.size + 1) h.hX h.hBW (own_lt h) (Nat.le_succ _) ((hw.block _ (Array.getElem?_eq_some_iff.1 hbx).1).trans hbx) (Stp.below (hb0.trans (hw.mono hb0.size)) h.hBW) ⟨Nat.le_refl _, Nat.le_refl _⟩ hp
end
end Go.Proofs.YtnobggabjpcbfaaGreat
namespace Go.Proofs.YtnobggabjpcbfaaGreat
open Go.RowKit
section
variable {X Y : Nat → Prop} {B mb cb n : Nat} {p : FlatP} {fv : Value} {inp : List Int} {fuel : FL} {s s1 : FSt} {cut stk rai : Bool} {x0 x1 x2 : Value} {W W' W1 W2 V0 w : World} {o : FOut}
theorem rrhs_no (h : RGo X B mb cb fv inp fuel s W) (hX : ∀ k, X k → k < W.heap.size) {k nn : Int} {ats : List Atm} {Aa Ak Al : Option Addr} {ca lk ck lb cbl : Nat} {e : PEnv} {pv : Value} (he : EIn X s.made.length s.cells.length W e pv) (ha : AtomsIn B W Aa ats) (hs : ats.length ≤ 1000000) (hno : atomsP e ats = none) :
 Calls Tryz.prog 50 #[.pointer (some ⟨cb, 0, none⟩), .agg #[.int .i64 k, .int .i64 nn, .slice Aa ats.length ca, .slice Ak lk ck, .slice Al lb cbl], pv] W (ROut X B mb cb fv inp fuel s (.stuck, s) W) := by
 generalize hV0 : (W.alloc (.cells #[.int .i64 k, .int .i64 nn, .slice Aa ats.length ca, .slice Ak lk ck, .slice Al lb cbl] 60)).alloc (.cells #[.int .i64 0, .int .i64 0, .slice none 0 0] 46) = V0
 obtain ⟨hb0, hq, hbx, hg0, hsz, hXV, hE, hA⟩ := frameR h hX he ha hs V0 hV0
 have HA := Lib.hid (hA.mono fun en w (hp : AtPost (Bx X (W.heap.size + 1)) s.made.length s.cells.length V0 (atomsP e ats) en w) => (show en = .returned (.tuple #[.slice none 0 0, .bool false]) ∧ w.cell? ⟨cb, 0, none⟩ = some (.pointer (some ⟨mb, 0, none⟩)) ∧
  Calls Tryz.prog 49 #[.pointer (some ⟨mb, 0, none⟩)] w _ from by
  obtain ⟨hw, h1 | h1⟩ := hp
  · obtain ⟨vs, A, d, h2, -⟩ := h1
    rw [hno] at h2; cases h2
  · exact ⟨h1.2, (hg0.below hw).c.ptr, (rstop_any (hg0.below hw)).mono fun e' w' hp => frameR_box h hb0 hbx hw (ROut.stop hp)⟩))
 have q2 : V0.cell? ⟨W.heap.size, 2, none⟩ = some (.slice Aa ats.length ca) := cell_block hq rfl
 obtain ⟨pq, rfl⟩ := he.shape
 generalize ((Res.stuck, s) : FOut) = o at *
 generalize ats.length = al at *
 clear h hX he ha hno hb0 hq hbx hg0 hsz hXV hE hA hs
 go_enter Tryz.func50, Tryz.ntmps50
 go_wp2_with (first
  | (go_at_call 52; refine HA.out.mono ?_; rintro en w ⟨rfl, mc, hS⟩; have HS := Lib.hid hS; clear hS)
  | (go_at_call 49; refine HS.out.mono ?_; rintro e w' ⟨k, n, A, l, d, rfl, ⟨f0, f1, f2, ff⟩, hR⟩; have HR := Lib.hid hR; clear hR))
 exact bodyPost_ret (v := .agg #[.int .i64 k, .int .i64 n, .slice A l d]) (by simp [results, Tryz.results50, go_sem, f0, f1, f2]) rfl HR.out
theorem rrhs_atom (h : RGo X B mb cb fv inp fuel s W) (hX : ∀ k, X k → k < W.heap.size) {nn : Int} {ats : List Atm} {Aa Ak Al : Option Addr} {ca lk ck lb cbl : Nat} {e : PEnv} {pv : Value} (he : EIn X s.made.length s.cells.length W e pv) (ha : AtomsIn B W Aa ats) (hs : ats.length ≤ 1000000) {vs : List PV} (hvs : atomsP e ats = some vs) (hl : 0 < vs.length) :
 Calls Tryz.prog 50 #[.pointer (some ⟨cb, 0, none⟩), .agg #[.int .i64 1, .int .i64 nn, .slice Aa ats.length ca, .slice Ak lk ck, .slice Al lb cbl], pv] W (ROut X B mb cb fv inp fuel s (.val vs[0], s) W) := by
 generalize hV0 : (W.alloc (.cells #[.int .i64 1, .int .i64 nn, .slice Aa ats.length ca, .slice Ak lk ck, .slice Al lb cbl] 60)).alloc (.cells #[.int .i64 0, .int .i64 0, .slice none 0 0] 46) = V0
 obtain ⟨hb0, hq, hbx, hg0, hsz, hXV, hE, hA⟩ := frameR h hX he ha hs V0 hV0
 have HA := Lib.hid (hA.mono fun en w (hp : AtPost (Bx X (W.heap.size + 1)) s.made.length s.cells.length V0 (atomsP e ats) en w) => (show ∃ b o d k1 n1 A1 l1 d1, en = .returned (.tuple #[.slice (some ⟨b, o, none⟩) vs.length d, .bool true]) ∧ w.cell? ⟨W.heap.size, 0, none⟩ = some (.int .i64 1) ∧
  w.cell? ⟨b, o, none⟩ = some (.int .i64 k1) ∧ w.cell? ⟨b, o + 1, none⟩ = some (.int .i64 n1) ∧ w.cell? ⟨b, o + 2, none⟩ = some (.slice A1 l1 d1) ∧
  (w.cell? ⟨W.heap.size + 1, 0, none⟩ = some (.int .i64 0) ∧ w.cell? ⟨W.heap.size + 1, 1, none⟩ = some (.int .i64 0) ∧ w.cell? ⟨W.heap.size + 1, 2, none⟩ = some (.slice none 0 0) ∧ (∀ i, w.frozen? ⟨W.heap.size + 1, i, none⟩ = false)) ∧
  ROut X B mb cb fv inp fuel s (.val vs[0], s) W (.returned (.agg #[.int .i64 k1, .int .i64 n1, .slice A1 l1 d1])) (((w.setCell ⟨W.heap.size + 1, 0, none⟩ (.int .i64 k1)).setCell ⟨W.heap.size + 1, 1, none⟩ (.int .i64 n1)).setCell ⟨W.heap.size + 1, 2, none⟩ (.slice A1 l1 d1)) from by
  obtain ⟨hw, h1 | h1⟩ := hp
  · obtain ⟨vs', A, d, h2, h3, h4, h5⟩ := h1
    rw [hvs] at h2; cases h2
    obtain ⟨b, o, a0, a1, a2, rfl, c0, c1, c2, hv⟩ := h5.at_ hl
    obtain ⟨k1, n1, A1, l1, d1, rfl, rfl, rfl⟩ := hv.shape
    simp only [Nat.zero_mul, Nat.add_zero] at c0 c1 c2
    have := ROut.box' (X := X) (fuel := fuel) (s1 := s) (o := (.val vs[0], s)) (W := W) (W1 := w) (W2 := w) (b := W.heap.size + 1) h.hX h.hBW (own_lt h) (Nat.le_succ _) ((hw.block _ hsz).trans hbx) (Stp.below (hb0.trans (hw.mono hb0.size)) h.hBW) ⟨Nat.le_refl _, Nat.le_refl _⟩
     (show ROut (Bx X (W.heap.size + 1)) B mb cb fv inp fuel s (.val vs[0], s) w (.returned (.agg #[.int .i64 k1, .int .i64 n1, .slice A1 l1 d1])) w from ⟨Stp.refl _, ⟨Nat.le_refl _, Nat.le_refl _⟩, _, _, _, _, _, rfl, hg0.below hw, hv⟩)
    exact ⟨b, o, d, k1, n1, A1, l1, d1, h3, cell_block ((hw.block _ (by omega)).trans hq) rfl, c0, c1, c2, this⟩
  · rw [hvs] at h1; cases h1.1))
 have q2 : V0.cell? ⟨W.heap.size, 2, none⟩ = some (.slice Aa ats.length ca) := cell_block hq rfl
 obtain ⟨pq, rfl⟩ := he.shape
 generalize ((Res.val vs[0], s) : FOut) = o at *
 generalize ats.length = al at *
 have hl0 : (0 : Int) < (vs.length : Int) := by omega
 generalize vs.length = vl at *
 clear h hX he ha hvs hb0 hq hbx hg0 hsz hXV hE hA hs
 go_enter Tryz.func50, Tryz.ntmps50
 go_wp2_with (first
  | (go_at_call 52; refine HA.out.mono ?_; rintro en w ⟨b, o, d, k1, n1, A1, l1, d1, rfl, q0, c0, c1, c2, ⟨f0, f1, f2, ff⟩, hR⟩; have HR := Lib.hid hR; clear hR))
 exact bodyPost_ret (v := .agg #[.int .i64 k1, .int .i64 n1, .slice A1 l1 d1]) (by simp [results, Tryz.results50, go_sem, f0, f1, f2]) rfl HR.out
end
end Go.Proofs.YtnobggabjpcbfaaGreat
namespace Go.Proofs.YtnobggabjpcbfaaGreat
open Go.RowKit
section
variable {X Y : Nat → Prop} {B mb cb n : Nat} {p : FlatP} {fv : Value} {inp : List Int} {fuel : FL} {s s1 : FSt} {cut stk rai : Bool} {x0 x1 x2 : Value} {W W' W1 W2 V0 w : World} {o : FOut}
theorem rrhs_block (h : RGo X B mb cb fv inp fuel s W) (hX : ∀ k, X k → k < W.heap.size) {nn : Int} {ats : List Atm} {Aa Ak Al : Option Addr} {ca lk ck lb cbl : Nat} {e : PEnv} {pv : Value} (he : EIn X s.made.length s.cells.length W e pv) (ha : AtomsIn B W Aa ats) (hs : ats.length ≤ 1000000) {vs : List PV} (hvs : atomsP e ats = some vs) :
 Calls Tryz.prog 50 #[.pointer (some ⟨cb, 0, none⟩), .agg #[.int .i64 3, .int .i64 nn, .slice Aa ats.length ca, .slice Ak lk ck, .slice Al lb cbl], pv] W (ROut X B mb cb fv inp fuel s (.val (.blk nn vs), s) W) := by
 generalize hV0 : (W.alloc (.cells #[.int .i64 3, .int .i64 nn, .slice Aa ats.length ca, .slice Ak lk ck, .slice Al lb cbl] 60)).alloc (.cells #[.int .i64 0, .int .i64 0, .slice none 0 0] 46) = V0
 obtain ⟨hb0, hq, hbx, hg0, hsz, hXV, hE, hA⟩ := frameR h hX he ha hs V0 hV0
 have HA := Lib.hid (hA.mono fun en w (hp : AtPost (Bx X (W.heap.size + 1)) s.made.length s.cells.length V0 (atomsP e ats) en w) => (show ∃ A d, en = .returned (.tuple #[.slice A vs.length d, .bool true]) ∧ w.cell? ⟨W.heap.size, 0, none⟩ = some (.int .i64 3) ∧ w.cell? ⟨W.heap.size, 1, none⟩ = some (.int .i64 nn) ∧
  (w.cell? ⟨W.heap.size + 1, 0, none⟩ = some (.int .i64 0) ∧ w.cell? ⟨W.heap.size + 1, 1, none⟩ = some (.int .i64 0) ∧ w.cell? ⟨W.heap.size + 1, 2, none⟩ = some (.slice none 0 0) ∧ (∀ i, w.frozen? ⟨W.heap.size + 1, i, none⟩ = false)) ∧
  ROut X B mb cb fv inp fuel s (.val (.blk nn vs), s) W (.returned (.agg #[.int .i64 2, .int .i64 nn, .slice A vs.length d])) (((w.setCell ⟨W.heap.size + 1, 0, none⟩ (.int .i64 2)).setCell ⟨W.heap.size + 1, 1, none⟩ (.int .i64 nn)).setCell ⟨W.heap.size + 1, 2, none⟩ (.slice A vs.length d)) from by
  obtain ⟨hw, h1 | h1⟩ := hp
  · obtain ⟨vs', A, d, h2, h3, h4, h5⟩ := h1
    rw [hvs] at h2; cases h2
    have := ROut.box' (X := X) (fuel := fuel) (s1 := s) (o := (.val (.blk nn vs), s)) (W := W) (W1 := w) (W2 := w) (b := W.heap.size + 1) h.hX h.hBW (own_lt h) (Nat.le_succ _) ((hw.block _ hsz).trans hbx) (Stp.below (hb0.trans (hw.mono hb0.size)) h.hBW) ⟨Nat.le_refl _, Nat.le_refl _⟩
     (show ROut (Bx X (W.heap.size + 1)) B mb cb fv inp fuel s (.val (.blk nn vs), s) w (.returned (.agg #[.int .i64 2, .int .i64 nn, .slice A vs.length d])) w from ⟨Stp.refl _, ⟨Nat.le_refl _, Nat.le_refl _⟩, _, _, _, _, _, rfl, hg0.below hw, h5.val h4 (by rw [atomsP_len _ _ hvs]; exact hs)⟩)
    exact ⟨A, d, h3, cell_block ((hw.block _ (by omega)).trans hq) rfl, cell_block ((hw.block _ (by omega)).trans hq) rfl, this⟩
  · rw [hvs] at h1; cases h1.1))
 have q2 : V0.cell? ⟨W.heap.size, 2, none⟩ = some (.slice Aa ats.length ca) := cell_block hq rfl
 obtain ⟨pq, rfl⟩ := he.shape
 generalize ((Res.val (.blk nn vs), s) : FOut) = o at *
 generalize ats.length = al at *
 generalize vs.length = vl at *
 clear h hX he ha hvs hb0 hq hbx hg0 hsz hXV hE hA hs
 go_enter Tryz.func50, Tryz.ntmps50
 go_wp2_with (first
  | (go_at_call 52; refine HA.out.mono ?_; rintro en w ⟨A, d, rfl, q0, q1, ⟨f0, f1, f2, ff⟩, hR⟩; have HR := Lib.hid hR; clear hR))
 exact bodyPost_ret (v := .agg #[.int .i64 2, .int .i64 nn, .slice A vl d]) (by simp [results, Tryz.results50, go_sem, f0, f1, f2]) rfl HR.out
end
end Go.Proofs.YtnobggabjpcbfaaGreat
