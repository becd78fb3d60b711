/-
  1 texts of this seat in one: VS.
-/
import Derived.Test.YtnolhcdfknjncaaDoorYN
import Derived.Test.YtnolhcdfknjncaaDoorY41
/-
  CevalRuns: behind its guard.
-/
set_option linter.unusedVariables false
set_option linter.unusedSimpArgs false
namespace Go.Proofs.YtnolhcdfknjncaaDoor
open Go.RowKit

noncomputable def runsR3 : Code := match Tryd.f3.body with
  | some (.seq _ (.seq _ (.seq c _))) => c
  | _ => .skip
noncomputable def runsT4 : Code := match Tryd.f3.body with
  | some (.seq _ (.seq _ (.seq _ c))) => c
  | _ => .skip
theorem endAt_cells {V : World} {X : Nat} {pe : PEnd} (h : EndAt V X pe) : ∃ A c, V.cell? ⟨X, 0, none⟩ = some (.int .i64 pe.kind) ∧ V.cell? ⟨X, 1, none⟩ = some (.int .i64 pe.n) ∧ V.cell? ⟨X, 2, none⟩ = some (.slice A pe.out.length c) ∧ V.cell? ⟨X, 3, none⟩ = some (.int .i64 pe.steps) ∧ IntsIn V.heap.size V A pe.out := by
  obtain ⟨A, c, h9, hi⟩ := h
  exact ⟨A, c, by simp [World.cell?, h9], by simp [World.cell?, h9], by simp [World.cell?, h9], by simp [World.cell?, h9], hi⟩
set_option maxRecDepth 100000 in
set_option maxHeartbeats 8000000 in
theorem runs_tail4 {W V : World} (hb : Below W.heap.size W V) (hr : Ready V) {X7 X8 : Nat} {pa : PEnd} (ha : EndAt V X7 pa) (hb2 : EndAt V X8 pa) (hrt : rightEnd pa) (u0 u1 u2 u3 u4 u5 u6 u9 u10 u11 u12 u13 u14 u15 u16 u17 u18 u19 u20 u21 u22 u23 u24 u25 u26 u27 u28 u29 u30 u31 u32 u33 u34 u35 u36 u37 u38 u39 u40 : Value) :
    runsT4.wp Tryd.prog (bodyPost Tryd.prog Tryd.f3 (BoolBelow true W)) { tmps := #[u0, u1, u2, u3, u4, u5, u6, .pointer (some ⟨X7, 0, none⟩), .pointer (some ⟨X8, 0, none⟩), u9, u10, u11, u12, u13, u14, u15, u16, u17, u18, u19, u20, u21, u22, u23, u24, u25, u26, u27, u28, u29, u30, u31, u32, u33, u34, u35, u36, u37, u38, u39, u40], defers := [] } V := by
  obtain ⟨A, c, a0, a1, a2, a3, hia⟩ := endAt_cells ha
  obtain ⟨B, d, b0, b1, b2, b3, hib⟩ := endAt_cells hb2
  have HS1 := Lib.hid (same_any (v := .agg #[.int .i64 pa.kind, .int .i64 pa.n, .slice A pa.out.length c, .int .i64 pa.steps]) (u := .agg #[.int .i64 pa.kind, .int .i64 pa.n, .slice B pa.out.length d, .int .i64 pa.steps]) V ⟨A, c, rfl, hia⟩ ⟨B, d, rfl, hib⟩)
  have h1 : sameE pa pa = true := by simp [sameE]
  rw [h1] at HS1
  have HRT := Lib.hid (fun (V2 : World) (h : Below V.heap.size V V2) => right02_any pa hrt V2 (A := A) (c := c) ((hia.below h).mono h.size))
  have HK := Lib.hid (fun (V2 : World) (h : Below V.heap.size V V2) => knows_any V2 (hr.below h))
  have HB := Lib.hid hb
  have HC := Lib.hid (fun (V2 : World) (h : Below V.heap.size V V2) => (show V2.cell? ⟨X7, 0, none⟩ = some (.int .i64 pa.kind) ∧ V2.cell? ⟨X7, 1, none⟩ = some (.int .i64 pa.n) ∧ V2.cell? ⟨X7, 2, none⟩ = some (.slice A pa.out.length c) ∧ V2.cell? ⟨X7, 3, none⟩ = some (.int .i64 pa.steps) ∧ V2.cell? ⟨X8, 3, none⟩ = some (.int .i64 pa.steps) from
    ⟨cell_behind h a0, cell_behind h a1, cell_behind h a2, cell_behind h a3, cell_behind h b3⟩))
  have hst3 : ((pa.steps : Int) == (pa.steps : Int)) = true := by simp
  clear h1 hia hib hb hr ha hb2 hrt
  obtain ⟨Q, hQ⟩ : ∃ Q, (bodyPost Tryd.prog Tryd.f3 (BoolBelow true W)) = Q := ⟨_, rfl⟩
  have HQ := Lib.hid hQ
  rw [hQ]
  clear hQ
  unfold runsT4 Tryd.f3
  dsimp only
  go_wp2_with (first
    | (go_at_call 12; refine HS1.out.mono ?_; rintro en V2 ⟨rfl, hv2⟩; obtain ⟨q0, q1, q2, q3, q4⟩ := HC.out _ hv2)
    | (go_at_call 13; refine (HRT.out _ hv2).mono ?_; rintro en V3 ⟨rfl, hv3⟩; have hv5 := hv2.trans (hv3.mono hv2.size))
    | (go_at_call 8; refine (HK.out _ hv5).mono ?_; rintro en V4 ⟨rfl, hv4⟩))
  rw [← HQ.out]
  go_ret
  have h1 := HB.out.trans (hv5.mono HB.out.size)
  exact ⟨rfl, h1.trans (hv4.mono h1.size)⟩
open Go.Proofs.YtnolhcdfknjncaaDoorW.PrintWords Go.Proofs.YtnolhcdfknjncaaDoorW.PrintLast
theorem putSel_skip {b : Nat → Bool} {i : Nat} : ∀ {l : List (Nat × Tmp × Value)} {a : Act}, (l.all fun e => !(e.1 == i)) = true → putSel a (up b i) l = putSel a b l
  | [], a, _ => rfl
  | e :: l, a, h => by
    rw [List.all_cons, Bool.and_eq_true] at h
    have he : e.1 ≠ i := by simpa using h.1
    unfold putSel
    rw [up_ne he]
    exact putSel_skip h.2
set_option maxRecDepth 100000 in
set_option maxHeartbeats 16000000 in
theorem runs_tail3 {W V : World} (hb : Below W.heap.size W V) (hr : Ready V) {X3 L ci p2 p3 e2 e3 : Nat} {Ai P2 P3 : Option Addr} {p0 p1 f sf : Int} {pb pc : PEnd} (hpc : pb = pc)
    (hS : ∀ V2, Below V.heap.size V V2 → V2.cell? ⟨X3, 0, none⟩ = some (.int .i64 p0) ∧ V2.cell? ⟨X3, 1, none⟩ = some (.int .i64 p1) ∧ V2.cell? ⟨X3, 2, none⟩ = some (.slice P2 p2 e2) ∧ V2.cell? ⟨X3, 3, none⟩ = some (.slice P3 p3 e3))
    (hsh : ∀ V2, Calls Tryd.prog 10 #[.int .i64 f] V2 fun e w' => e = .returned (.int .i64 sf) ∧ V2 = w')
    (hrb : ∀ V2, Below V.heap.size V V2 → Calls Tryd.prog 9 #[.agg #[.int .i64 p0, .int .i64 p1, .slice P2 p2 e2, .slice P3 p3 e3], .slice Ai L ci, .int .i64 sf] V2 (RunPost pb V2))
    (hrc : ∀ V2, Below V.heap.size V V2 → Calls Tryd.prog 11 #[.agg #[.int .i64 p0, .int .i64 p1, .slice P2 p2 e2, .slice P3 p3 e3], .slice Ai L ci, .int .i64 sf] V2 (RunPost pc V2))
    (hrt : rightEnd pb) (u0 u4 u5 u6 u7 u8 u9 u10 u11 u12 u13 u14 u15 u16 u17 u18 u19 u20 u21 u22 u23 u24 u25 u26 u27 u28 u29 u30 u31 u32 u33 u34 u35 u36 u37 u38 u39 u40 : Value) :
    ∀ K : Act → World → Prop, (∀ a w, runsT4.wp Tryd.prog (bodyPost Tryd.prog Tryd.f3 (BoolBelow true W)) a w → K a w) → runsR3.wp Tryd.prog (Exit.then K (bodyPost Tryd.prog Tryd.f3 (BoolBelow true W))) { tmps := #[u0, .slice Ai L ci, .int .i64 f, .pointer (some ⟨X3, 0, none⟩), u4, u5, u6, u7, u8, u9, u10, u11, u12, u13, u14, u15, u16, u17, u18, u19, u20, u21, u22, u23, u24, u25, u26, u27, u28, u29, u30, u31, u32, u33, u34, u35, u36, u37, u38, u39, u40], defers := [] } V := by
  intro K hK0
  have HK0 := Lib.hid hK0
  clear hK0
  have HEND := Lib.hid (fun (V2 : World) (X7 X8 : Nat) (hv : Below V.heap.size V V2) (he : EndAt V2 X7 pb) (hf : EndAt V2 X8 pc) (y0 y1 y2 y3 y4 y5 y6 y9 y10 y11 y12 y13 y14 y15 y16 y17 y18 y19 y20 y21 y22 y23 y24 y25 y26 y27 y28 y29 y30 y31 y32 y33 y34 y35 y36 y37 y38 y39 y40 : Value) =>
    (show runsT4.wp Tryd.prog (bodyPost Tryd.prog Tryd.f3 (BoolBelow true W)) { tmps := #[y0, y1, y2, y3, y4, y5, y6, .pointer (some ⟨X7, 0, none⟩), .pointer (some ⟨X8, 0, none⟩), y9, y10, y11, y12, y13, y14, y15, y16, y17, y18, y19, y20, y21, y22, y23, y24, y25, y26, y27, y28, y29, y30, y31, y32, y33, y34, y35, y36, y37, y38, y39, y40], defers := [] } V2 from
      runs_tail4 (hb.trans (hv.mono hb.size)) (hr.below hv) he (hpc ▸ hf) hrt _ _ _ _ _ _ _ _ _ _ _ _ _ _ _ _ _ _ _ _ _ _ _ _ _ _ _ _ _ _ _ _ _ _ _ _ _ _ _))
  have HS := Lib.hid (fun (V2 : World) (h : Below V.heap.size V V2) => hS V2 h)
  have HSH := Lib.hid hsh
  have HRB := Lib.hid hrb
  have HRC := Lib.hid hrc
  have D0 := Lib.hid (show Below V.heap.size V V.drew from (Below.refl _ _).drew)
  clear hS hrb hrc hb hr hsh hrt hpc
  unfold runsR3 Tryd.f3
  dsimp only
  refine start_ (n := 14) (S := fun w' => True) (ds := []) #[false, false, false, false, false, false, false, false, false, false, false, false, false, false] (by kernel_rfl) rfl rfl trivial (fun hHeld => ?_)
  clear hHeld
  refine inv_at (B := [0, 0, 0, 4, 11, 0, 0, 0, 128, 352, 0, 0, 3095, 7776]) [0, 1, 2, 3, 4, 5, 6, 7, 8, 9, 10, 11, 12, 13] (fun a0_ b a w' => ∃ A1 c1 A2 c2 X Y, a = putSel a0_ b [(0, 14, .agg #[.int .i64 p0, .int .i64 p1, .slice P2 p2 e2, .slice P3 p3 e3]), (1, 15, .slice Ai L ci), (2, 16, .int .i64 f), (3, 17, .int .i64 sf), (4, 18, .agg #[.int .i64 pb.kind, .int .i64 pb.n, .slice A1 pb.out.length c1, .int .i64 pb.steps]), (5, 19, .agg #[.int .i64 p0, .int .i64 p1, .slice P2 p2 e2, .slice P3 p3 e3]), (6, 20, .slice Ai L ci), (7, 21, .int .i64 f), (8, 22, .int .i64 sf), (9, 23, .agg #[.int .i64 pc.kind, .int .i64 pc.n, .slice A2 pc.out.length c2, .int .i64 pc.steps]), (10, 7, .pointer (some ⟨X, 0, none⟩)), (11, 8, .pointer (some ⟨Y, 0, none⟩))] ∧ TwoS V pb pc b A1 A2 c1 c2 X Y w') rfl (by kernel_rfl) (by kernel_rfl) (by kernel_rfl) ?_ ?_ ?_
  · exact ⟨none, 0, none, 0, 0, 0, by simp only [putSel, Bool.false_eq_true, if_false], TwoS.start D0.out⟩
  · skip
    refine steps_cons ?_ ?_
    · rintro b a w' ⟨A1, c1, A2, c2, X, Y, ha, hI⟩ hb_ hon hoff
      refine ⟨_, rfl, fun K hK => ?_⟩
      have m3 : a.tmps[3]? = some (.pointer (some ⟨X3, 0, none⟩)) := by rw [ha]; exact (putSel_off rfl).trans rfl
      obtain ⟨z0, z1, z2, z3⟩ := HS.out w' hI.bel
      replace ha := Lib.hid ha
      have HI := Lib.hid hI
      clear hI
      refine value_ (w1 := w') (v := .agg #[.int .i64 p0, .int .i64 p1, .slice P2 p2 e2, .slice P3 p3 e3]) (by rfl) rfl ?_ ?_
      · go_simp
        try rfl
      exact hK.out _ _ ⟨A1, c1, A2, c2, X, Y, (by rw [ha.out]; exact putSel_upk 0 hb_ rfl rfl rfl), HI.out.pass (by omega)⟩
    refine steps_cons ?_ ?_
    · rintro b a w' ⟨A1, c1, A2, c2, X, Y, ha, hI⟩ hb_ hon hoff
      refine ⟨_, rfl, fun K hK => ?_⟩
      have m1 : a.tmps[1]? = some (.slice Ai L ci) := by rw [ha]; exact (putSel_off rfl).trans rfl
      replace ha := Lib.hid ha
      have HI := Lib.hid hI
      clear hI
      refine value_ (w1 := w') (v := .slice Ai L ci) (by rfl) rfl ?_ ?_
      · go_simp
        try rfl
      exact hK.out _ _ ⟨A1, c1, A2, c2, X, Y, (by rw [ha.out]; exact putSel_upk 1 hb_ rfl rfl rfl), HI.out.pass (by omega)⟩
    refine steps_cons ?_ ?_
    · rintro b a w' ⟨A1, c1, A2, c2, X, Y, ha, hI⟩ hb_ hon hoff
      refine ⟨_, rfl, fun K hK => ?_⟩
      have m2 : a.tmps[2]? = some (.int .i64 f) := by rw [ha]; exact (putSel_off rfl).trans rfl
      replace ha := Lib.hid ha
      have HI := Lib.hid hI
      clear hI
      refine value_ (w1 := w') (v := .int .i64 f) (by rfl) rfl ?_ ?_
      · go_simp
        try rfl
      exact hK.out _ _ ⟨A1, c1, A2, c2, X, Y, (by rw [ha.out]; exact putSel_upk 2 hb_ rfl rfl rfl), HI.out.pass (by omega)⟩
    refine steps_cons ?_ ?_
    · rintro b a w' ⟨A1, c1, A2, c2, X, Y, ha, hI⟩ hb_ hon hoff
      refine ⟨_, rfl, fun K hK => ?_⟩
      have e16 : a.tmps[16]? = some (.int .i64 f) := by rw [ha]; exact putSel_on (e := (2, 16, .int .i64 f)) 2 rfl rfl (hon 2 (by kernel_rfl)) rfl
      replace ha := Lib.hid ha
      have HI := Lib.hid hI
      clear hI
      refine goes_ Tryd.func10 (by kernel_rfl) rfl #[.int .i64 f] (by rfl) rfl rfl (by first | (simp only [List.map_toArray, List.map_cons, List.map_nil, Act.eval, Array.getD_eq_getD_getElem?, Option.getD_some, e16]; done) | (simp only [List.map_toArray, List.map_cons, List.map_nil, Act.eval, Array.getD_eq_getD_getElem?, Option.getD_some, e16]; rfl)) ?_
      refine (HSH.out w').mono ?_
      rintro e w2 ⟨rfl, rfl⟩
      exact ⟨_, rfl, hK.out _ _ ⟨A1, c1, A2, c2, X, Y, (by rw [ha.out]; exact putSel_upk 3 hb_ rfl rfl rfl), HI.out.pass (by omega)⟩⟩
    refine steps_cons ?_ ?_
    · rintro b a w' ⟨A1, c1, A2, c2, X, Y, ha, hI⟩ hb_ hon hoff
      refine ⟨_, rfl, fun K hK => ?_⟩
      have e14 : a.tmps[14]? = some (.agg #[.int .i64 p0, .int .i64 p1, .slice P2 p2 e2, .slice P3 p3 e3]) := by rw [ha]; exact putSel_on (e := (0, 14, .agg #[.int .i64 p0, .int .i64 p1, .slice P2 p2 e2, .slice P3 p3 e3])) 0 rfl rfl (hon 0 (by kernel_rfl)) rfl
      have e15 : a.tmps[15]? = some (.slice Ai L ci) := by rw [ha]; exact putSel_on (e := (1, 15, .slice Ai L ci)) 1 rfl rfl (hon 1 (by kernel_rfl)) rfl
      have e17 : a.tmps[17]? = some (.int .i64 sf) := by rw [ha]; exact putSel_on (e := (3, 17, .int .i64 sf)) 3 rfl rfl (hon 3 (by kernel_rfl)) rfl
      replace ha := Lib.hid ha
      have HI := Lib.hid hI
      clear hI
      refine goes_ Tryd.func9 (by kernel_rfl) rfl #[.agg #[.int .i64 p0, .int .i64 p1, .slice P2 p2 e2, .slice P3 p3 e3], .slice Ai L ci, .int .i64 sf] (by rfl) rfl rfl (by first | (simp only [List.map_toArray, List.map_cons, List.map_nil, Act.eval, Array.getD_eq_getD_getElem?, Option.getD_some, e14, e15, e17]; done) | (simp only [List.map_toArray, List.map_cons, List.map_nil, Act.eval, Array.getD_eq_getD_getElem?, Option.getD_some, e14, e15, e17]; rfl)) ?_
      refine (HRB.out w' HI.out.bel).mono ?_
      rintro e w2 ⟨v, A, c, rfl, rfl, hE, hb2, hlo⟩
      obtain ⟨A', c', heq, hi⟩ := hE
      simp only [Value.agg.injEq, Array.mk.injEq, List.cons.injEq, Value.slice.injEq, true_and, and_true] at heq
      obtain ⟨rfl, rfl⟩ := heq
      exact ⟨_, rfl, hK.out _ _ ⟨A, c, A2, c2, X, Y, (by rw [ha.out]; exact putSel_upk 4 hb_ rfl rfl rfl), HI.out.run1 (hoff 12 (by kernel_rfl)) hb2 hi hlo⟩⟩
    refine steps_cons ?_ ?_
    · rintro b a w' ⟨A1, c1, A2, c2, X, Y, ha, hI⟩ hb_ hon hoff
      refine ⟨_, rfl, fun K hK => ?_⟩
      have m3 : a.tmps[3]? = some (.pointer (some ⟨X3, 0, none⟩)) := by rw [ha]; exact (putSel_off rfl).trans rfl
      obtain ⟨z0, z1, z2, z3⟩ := HS.out w' hI.bel
      replace ha := Lib.hid ha
      have HI := Lib.hid hI
      clear hI
      refine value_ (w1 := w') (v := .agg #[.int .i64 p0, .int .i64 p1, .slice P2 p2 e2, .slice P3 p3 e3]) (by rfl) rfl ?_ ?_
      · go_simp
        try rfl
      exact hK.out _ _ ⟨A1, c1, A2, c2, X, Y, (by rw [ha.out]; exact putSel_upk 5 hb_ rfl rfl rfl), HI.out.pass (by omega)⟩
    refine steps_cons ?_ ?_
    · rintro b a w' ⟨A1, c1, A2, c2, X, Y, ha, hI⟩ hb_ hon hoff
      refine ⟨_, rfl, fun K hK => ?_⟩
      have m1 : a.tmps[1]? = some (.slice Ai L ci) := by rw [ha]; exact (putSel_off rfl).trans rfl
      replace ha := Lib.hid ha
      have HI := Lib.hid hI
      clear hI
      refine value_ (w1 := w') (v := .slice Ai L ci) (by rfl) rfl ?_ ?_
      · go_simp
        try rfl
      exact hK.out _ _ ⟨A1, c1, A2, c2, X, Y, (by rw [ha.out]; exact putSel_upk 6 hb_ rfl rfl rfl), HI.out.pass (by omega)⟩
    refine steps_cons ?_ ?_
    · rintro b a w' ⟨A1, c1, A2, c2, X, Y, ha, hI⟩ hb_ hon hoff
      refine ⟨_, rfl, fun K hK => ?_⟩
      have m2 : a.tmps[2]? = some (.int .i64 f) := by rw [ha]; exact (putSel_off rfl).trans rfl
      replace ha := Lib.hid ha
      have HI := Lib.hid hI
      clear hI
      refine value_ (w1 := w') (v := .int .i64 f) (by rfl) rfl ?_ ?_
      · go_simp
        try rfl
      exact hK.out _ _ ⟨A1, c1, A2, c2, X, Y, (by rw [ha.out]; exact putSel_upk 7 hb_ rfl rfl rfl), HI.out.pass (by omega)⟩
    refine steps_cons ?_ ?_
    · rintro b a w' ⟨A1, c1, A2, c2, X, Y, ha, hI⟩ hb_ hon hoff
      refine ⟨_, rfl, fun K hK => ?_⟩
      have e21 : a.tmps[21]? = some (.int .i64 f) := by rw [ha]; exact putSel_on (e := (7, 21, .int .i64 f)) 7 rfl rfl (hon 7 (by kernel_rfl)) rfl
      replace ha := Lib.hid ha
      have HI := Lib.hid hI
      clear hI
      refine goes_ Tryd.func10 (by kernel_rfl) rfl #[.int .i64 f] (by rfl) rfl rfl (by first | (simp only [List.map_toArray, List.map_cons, List.map_nil, Act.eval, Array.getD_eq_getD_getElem?, Option.getD_some, e21]; done) | (simp only [List.map_toArray, List.map_cons, List.map_nil, Act.eval, Array.getD_eq_getD_getElem?, Option.getD_some, e21]; rfl)) ?_
      refine (HSH.out w').mono ?_
      rintro e w2 ⟨rfl, rfl⟩
      exact ⟨_, rfl, hK.out _ _ ⟨A1, c1, A2, c2, X, Y, (by rw [ha.out]; exact putSel_upk 8 hb_ rfl rfl rfl), HI.out.pass (by omega)⟩⟩
    refine steps_cons ?_ ?_
    · rintro b a w' ⟨A1, c1, A2, c2, X, Y, ha, hI⟩ hb_ hon hoff
      refine ⟨_, rfl, fun K hK => ?_⟩
      have e19 : a.tmps[19]? = some (.agg #[.int .i64 p0, .int .i64 p1, .slice P2 p2 e2, .slice P3 p3 e3]) := by rw [ha]; exact putSel_on (e := (5, 19, .agg #[.int .i64 p0, .int .i64 p1, .slice P2 p2 e2, .slice P3 p3 e3])) 5 rfl rfl (hon 5 (by kernel_rfl)) rfl
      have e20 : a.tmps[20]? = some (.slice Ai L ci) := by rw [ha]; exact putSel_on (e := (6, 20, .slice Ai L ci)) 6 rfl rfl (hon 6 (by kernel_rfl)) rfl
      have e22 : a.tmps[22]? = some (.int .i64 sf) := by rw [ha]; exact putSel_on (e := (8, 22, .int .i64 sf)) 8 rfl rfl (hon 8 (by kernel_rfl)) rfl
      replace ha := Lib.hid ha
      have HI := Lib.hid hI
      clear hI
      refine goes_ Tryd.func11 (by kernel_rfl) rfl #[.agg #[.int .i64 p0, .int .i64 p1, .slice P2 p2 e2, .slice P3 p3 e3], .slice Ai L ci, .int .i64 sf] (by rfl) rfl rfl (by first | (simp only [List.map_toArray, List.map_cons, List.map_nil, Act.eval, Array.getD_eq_getD_getElem?, Option.getD_some, e19, e20, e22]; done) | (simp only [List.map_toArray, List.map_cons, List.map_nil, Act.eval, Array.getD_eq_getD_getElem?, Option.getD_some, e19, e20, e22]; rfl)) ?_
      refine (HRC.out w' HI.out.bel).mono ?_
      rintro e w2 ⟨v, A, c, rfl, rfl, hE, hb2, hlo⟩
      obtain ⟨A', c', heq, hi⟩ := hE
      simp only [Value.agg.injEq, Array.mk.injEq, List.cons.injEq, Value.slice.injEq, true_and, and_true] at heq
      obtain ⟨rfl, rfl⟩ := heq
      exact ⟨_, rfl, hK.out _ _ ⟨A1, c1, A, c, X, Y, (by rw [ha.out]; exact putSel_upk 9 hb_ rfl rfl rfl), HI.out.run2 (hoff 13 (by kernel_rfl)) hb2 hi hlo⟩⟩
    refine steps_cons ?_ ?_
    · rintro b a w' ⟨A1, c1, A2, c2, X, Y, ha, hI⟩ hb_ hon hoff
      refine ⟨_, rfl, fun K hK => ?_⟩
      replace ha := Lib.hid ha
      have HI := Lib.hid hI
      clear hI
      refine value_ (w1 := w'.alloc (.cells #[.int .i64 0, .int .i64 0, .slice none 0 0, .int .i64 0] 31)) (v := .pointer (some ⟨w'.heap.size, 0, none⟩)) (by rfl) rfl ?_ ?_
      · go_simp
        try rfl
      exact hK.out _ _ ⟨A1, c1, A2, c2, w'.heap.size, Y, (by rw [ha.out]; exact putSel_upk 10 hb_ rfl rfl rfl), HI.out.new1 (hoff 12 (by kernel_rfl))⟩
    refine steps_cons ?_ ?_
    · rintro b a w' ⟨A1, c1, A2, c2, X, Y, ha, hI⟩ hb_ hon hoff
      refine ⟨_, rfl, fun K hK => ?_⟩
      replace ha := Lib.hid ha
      have HI := Lib.hid hI
      clear hI
      refine value_ (w1 := w'.alloc (.cells #[.int .i64 0, .int .i64 0, .slice none 0 0, .int .i64 0] 31)) (v := .pointer (some ⟨w'.heap.size, 0, none⟩)) (by rfl) rfl ?_ ?_
      · go_simp
        try rfl
      exact hK.out _ _ ⟨A1, c1, A2, c2, X, w'.heap.size, (by rw [ha.out]; exact putSel_upk 11 hb_ rfl rfl rfl), HI.out.new2 (hoff 13 (by kernel_rfl))⟩
    refine steps_cons ?_ ?_
    · rintro b a w' ⟨A1, c1, A2, c2, X, Y, ha, hI⟩ hb_ hon hoff
      refine ⟨_, rfl, fun K hK => ?_⟩
      have e18 : a.tmps[18]? = some (.agg #[.int .i64 pb.kind, .int .i64 pb.n, .slice A1 pb.out.length c1, .int .i64 pb.steps]) := by rw [ha]; exact putSel_on (e := (4, 18, .agg #[.int .i64 pb.kind, .int .i64 pb.n, .slice A1 pb.out.length c1, .int .i64 pb.steps])) 4 rfl rfl (hon 4 (by kernel_rfl)) rfl
      have e7 : a.tmps[7]? = some (.pointer (some ⟨X, 0, none⟩)) := by rw [ha]; exact putSel_on (e := (10, 7, .pointer (some ⟨X, 0, none⟩))) 10 rfl rfl (hon 10 (by kernel_rfl)) rfl
      obtain ⟨y0, y1, y2, y3, y4⟩ := ((hI.x1 (hon 10 (by kernel_rfl))).2.2 hb_).cells
      replace ha := Lib.hid ha
      have HI := Lib.hid hI
      clear hI
      refine skip_ (w1 := setE w' X pb A1 c1) (by rfl) rfl ?_ ?_
      · unfold setE
        go_simp
        try rfl
      exact hK.out _ _ ⟨A1, c1, A2, c2, X, Y, (by rw [ha.out]; exact (putSel_skip rfl).symm), HI.out.lay1 (hon 4 (by kernel_rfl)) (hon 10 (by kernel_rfl)) (hon 11 (by kernel_rfl)) hb_ (hoff 13 (by kernel_rfl))⟩
    refine steps_cons ?_ ?_
    · rintro b a w' ⟨A1, c1, A2, c2, X, Y, ha, hI⟩ hb_ hon hoff
      refine ⟨_, rfl, fun K hK => ?_⟩
      have e23 : a.tmps[23]? = some (.agg #[.int .i64 pc.kind, .int .i64 pc.n, .slice A2 pc.out.length c2, .int .i64 pc.steps]) := by rw [ha]; exact putSel_on (e := (9, 23, .agg #[.int .i64 pc.kind, .int .i64 pc.n, .slice A2 pc.out.length c2, .int .i64 pc.steps])) 9 rfl rfl (hon 9 (by kernel_rfl)) rfl
      have e8 : a.tmps[8]? = some (.pointer (some ⟨Y, 0, none⟩)) := by rw [ha]; exact putSel_on (e := (11, 8, .pointer (some ⟨Y, 0, none⟩))) 11 rfl rfl (hon 11 (by kernel_rfl)) rfl
      obtain ⟨y0, y1, y2, y3, y4⟩ := ((hI.x2 (hon 11 (by kernel_rfl))).2.2 hb_).cells
      replace ha := Lib.hid ha
      have HI := Lib.hid hI
      clear hI
      refine skip_ (w1 := setE w' Y pc A2 c2) (by rfl) rfl ?_ ?_
      · unfold setE
        go_simp
        try rfl
      exact hK.out _ _ ⟨A1, c1, A2, c2, X, Y, (by rw [ha.out]; exact (putSel_skip rfl).symm), HI.out.lay2 (hon 9 (by kernel_rfl)) (hon 10 (by kernel_rfl)) (hon 11 (by kernel_rfl)) (hon 12 (by kernel_rfl)) hb_⟩
    exact steps_nil
  rintro b a w' hall ⟨A1, c1, A2, c2, X, Y, ha, hI⟩
  have hl : ∀ j, j ≤ 13 → b j = true := fun j hj => hall j (by
    have : j = 0 ∨ j = 1 ∨ j = 2 ∨ j = 3 ∨ j = 4 ∨ j = 5 ∨ j = 6 ∨ j = 7 ∨ j = 8 ∨ j = 9 ∨ j = 10 ∨ j = 11 ∨ j = 12 ∨ j = 13 := by omega
    rcases this with rfl | rfl | rfl | rfl | rfl | rfl | rfl | rfl | rfl | rfl | rfl | rfl | rfl | rfl <;> rfl)
  have b0 := hl 0 (by decide)
  have b1 := hl 1 (by decide)
  have b2 := hl 2 (by decide)
  have b3 := hl 3 (by decide)
  have b4 := hl 4 (by decide)
  have b5 := hl 5 (by decide)
  have b6 := hl 6 (by decide)
  have b7 := hl 7 (by decide)
  have b8 := hl 8 (by decide)
  have b9 := hl 9 (by decide)
  have b10 := hl 10 (by decide)
  have b11 := hl 11 (by decide)
  obtain ⟨g1, g2, g3⟩ := hI.ends b4 b9 (hl 12 (by decide)) (hl 13 (by decide))
  subst ha
  simp only [putSel, b0, b1, b2, b3, b4, b5, b6, b7, b8, b9, b10, b11, if_true, Act.put, List.setIfInBounds_toArray, List.set_cons_zero, List.set_cons_succ, Exit.then]
  exact HK0.out _ _ (HEND.out _ _ _ g1 g2 g3 _ _ _ _ _ _ _ _ _ _ _ _ _ _ _ _ _ _ _ _ _ _ _ _ _ _ _ _ _ _ _ _ _ _ _ _ _ _ _)
end Go.Proofs.YtnolhcdfknjncaaDoor
