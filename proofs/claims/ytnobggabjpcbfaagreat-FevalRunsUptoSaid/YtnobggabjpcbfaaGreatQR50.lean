/-
 1 texts of this seat in one: FV48.
-/
import Derived.Test.YtnobggabjpcbfaaGreatQR49
set_option maxRecDepth 100000
set_option maxHeartbeats 16000000
set_option linter.unusedVariables false
set_option linter.unusedSimpArgs false
namespace Go.Proofs.YtnobggabjpcbfaaGreat
open Go.RowKit
noncomputable def ruR3 : Code := match Tryz.f3.body with
 | some (.seq _ (.seq _ (.seq c _))) => c
 | _ => .skip
noncomputable def ruT4 : Code := match Tryz.f3.body with
 | some (.seq _ (.seq _ (.seq _ c))) => c
 | _ => .skip
theorem ru_tail4 {W V : World} (hb : Below W.heap.size W V) {X7 X8 : Nat} {pa pb : PEnd} (ha : EndAt V X7 pa) (hb2 : EndAt V X8 pb) (hsame : sameE pa pb = true ∧ pa.steps = pb.steps) (hrt : rightEnd pa) (u0 u1 u2 u3 u4 u5 u6 u9 u10 u11 u12 u13 u14 u15 u16 u17 u18 u19 u20 u21 u22 u23 u24 u25 u26 u27 u28 u29 u30 u31 u32 u33 u34 u35 u36 u37 u38 u39 u40 : Value) :
 ruT4.wp Tryz.prog (bodyPost Tryz.prog Tryz.f3 (BoolBelow true W)) { tmps := #[u0, u1, u2, u3, u4, u5, u6, .pointer (some ⟨X7, 0, none⟩), .pointer (some ⟨X8, 0, none⟩), u9, u10, u11, u12, u13, u14, u15, u16, u17, u18, u19, u20, u21, u22, u23, u24, u25, u26, u27, u28, u29, u30, u31, u32, u33, u34, u35, u36, u37, u38, u39, u40], defers := [] } V := by
 obtain ⟨A, c, a0, a1, a2, a3, hia⟩ := endAt_cells ha
 obtain ⟨B, d, b0, b1, b2, b3, hib⟩ := endAt_cells hb2
 have HS1 := Lib.hid (same_any (v := .agg #[.int .i64 pa.kind, .int .i64 pa.n, .slice A pa.out.length c, .int .i64 pa.steps]) (u := .agg #[.int .i64 pb.kind, .int .i64 pb.n, .slice B pb.out.length d, .int .i64 pb.steps]) V ⟨A, c, rfl, hia⟩ ⟨B, d, rfl, hib⟩)
 rw [hsame.1] at HS1
 have HRT := Lib.hid (fun (V2 : World) (h : Below V.heap.size V V2) => right02_any pa hrt V2 (A := A) (c := c) ((hia.below h).mono h.size))
 have HB := Lib.hid hb
 have HC := Lib.hid (fun (V2 : World) (h : Below V.heap.size V V2) => (show V2.cell? ⟨X7, 0, none⟩ = some (.int .i64 pa.kind) ∧ V2.cell? ⟨X7, 1, none⟩ = some (.int .i64 pa.n) ∧ V2.cell? ⟨X7, 2, none⟩ = some (.slice A pa.out.length c) ∧ V2.cell? ⟨X7, 3, none⟩ = some (.int .i64 pa.steps) ∧ V2.cell? ⟨X8, 3, none⟩ = some (.int .i64 pb.steps) from
  ⟨cell_behind h a0, cell_behind h a1, cell_behind h a2, cell_behind h a3, cell_behind h b3⟩))
 have hst3 : ((pa.steps : Int) == (pb.steps : Int)) = true := by rw [hsame.2]; simp
 clear hia hib hb ha hb2 hrt hsame
 obtain ⟨Q, hQ⟩ : ∃ Q, (bodyPost Tryz.prog Tryz.f3 (BoolBelow true W)) = Q := ⟨_, rfl⟩
 have HQ := Lib.hid hQ
 rw [hQ]
 clear hQ
 unfold ruT4 Tryz.f3
 dsimp only
 go_wp2_with (first
  | (go_at_call 10; refine HS1.out.mono ?_; rintro en V2 ⟨rfl, hv2⟩; obtain ⟨q0, q1, q2, q3, q4⟩ := HC.out _ hv2)
  | (go_at_call 11; refine (HRT.out _ hv2).mono ?_; rintro en V3 ⟨rfl, hv3⟩; have hv5 := hv2.trans (hv3.mono hv2.size))
  | (go_at_call 6; refine (knows_any _).mono ?_; rintro en V4 ⟨rfl, hv4⟩))
 rw [← HQ.out]
 go_ret
 have h1 := HB.out.trans (hv5.mono HB.out.size)
 exact ⟨rfl, h1.trans (hv4.mono h1.size)⟩
open Go.Proofs.YtnobggabjpcbfaaGreatW.PrintWords Go.Proofs.YtnobggabjpcbfaaGreatW.PrintLast in
theorem ru_runs {W V : World} (hb : Below W.heap.size W V) {X3 L ci p2 p3 e2 e3 : Nat} {Ai P2 P3 : Option Addr} {p4 : Bool} {p5 f sf : Int} {pb pc : PEnd} (hsame : sameE pb pc = true ∧ pb.steps = pc.steps) (hrt : rightEnd pb)
 (hS : ∀ V2, Below V.heap.size V V2 → V2.cell? ⟨X3, 0, none⟩ = some (.slice P2 p2 e2) ∧ V2.cell? ⟨X3, 1, none⟩ = some (.slice P3 p3 e3) ∧ V2.cell? ⟨X3, 2, none⟩ = some (.bool p4) ∧ V2.cell? ⟨X3, 3, none⟩ = some (.int .i64 p5))
 (hsh : ∀ V2, Calls Tryz.prog 8 #[.int .i64 f] V2 fun e w' => e = .returned (.int .i64 sf) ∧ V2 = w')
 (hrb : ∀ V2, Below V.heap.size V V2 → Calls Tryz.prog 7 #[.agg #[.slice P2 p2 e2, .slice P3 p3 e3, .bool p4, .int .i64 p5], .slice Ai L ci, .int .i64 sf] V2 (RunPost pb V2))
 (hrc : ∀ V2, Below V.heap.size V V2 → Calls Tryz.prog 9 #[.agg #[.slice P2 p2 e2, .slice P3 p3 e3, .bool p4, .int .i64 p5], .slice Ai L ci, .int .i64 sf] V2 (RunPost pc V2)) (u0 u4 u5 u6 u7 u8 u9 u10 u11 u12 u13 u14 u15 u16 u17 u18 u19 u20 u21 u22 u23 u24 u25 u26 u27 u28 u29 u30 u31 u32 u33 u34 u35 u36 u37 u38 u39 u40 : Value) :
 ∀ K : Act → World → Prop, (∀ a w, ruT4.wp Tryz.prog (bodyPost Tryz.prog Tryz.f3 (BoolBelow true W)) a w → K a w) → ruR3.wp Tryz.prog (Exit.then K (bodyPost Tryz.prog Tryz.f3 (BoolBelow true W))) { tmps := #[u0, .slice Ai L ci, .int .i64 f, .pointer (some ⟨X3, 0, none⟩), u4, u5, u6, u7, u8, u9, u10, u11, u12, u13, u14, u15, u16, u17, u18, u19, u20, u21, u22, u23, u24, u25, u26, u27, u28, u29, u30, u31, u32, u33, u34, u35, u36, u37, u38, u39, u40], defers := [] } V := by
 intro K hK0
 have HK0 := Lib.hid hK0
 clear hK0
 have HEND := Lib.hid (fun (V2 : World) (X7 X8 : Nat) (hv : Below V.heap.size V V2) (he : EndAt V2 X7 pb) (hf : EndAt V2 X8 pc) (y0 y1 y2 y3 y4 y5 y6 y9 y10 y11 y12 y13 y14 y15 y16 y17 y18 y19 y20 y21 y22 y23 y24 y25 y26 y27 y28 y29 y30 y31 y32 y33 y34 y35 y36 y37 y38 y39 y40 : Value) =>
  (show ruT4.wp Tryz.prog (bodyPost Tryz.prog Tryz.f3 (BoolBelow true W)) { tmps := #[y0, y1, y2, y3, y4, y5, y6, .pointer (some ⟨X7, 0, none⟩), .pointer (some ⟨X8, 0, none⟩), y9, y10, y11, y12, y13, y14, y15, y16, y17, y18, y19, y20, y21, y22, y23, y24, y25, y26, y27, y28, y29, y30, y31, y32, y33, y34, y35, y36, y37, y38, y39, y40], defers := [] } V2 from
   ru_tail4 (hb.trans (hv.mono hb.size)) he hf hsame hrt _ _ _ _ _ _ _ _ _ _ _ _ _ _ _ _ _ _ _ _ _ _ _ _ _ _ _ _ _ _ _ _ _ _ _ _ _ _ _))
 have HS := Lib.hid hS

 have HSH := Lib.hid hsh
 have HRB := Lib.hid hrb
 have HRC := Lib.hid hrc
 have D0 := Lib.hid (show Below V.heap.size V V.drew from (Below.refl _ _).drew)
 clear hS hrb hrc hb hsh hsame hrt
 unfold ruR3 Tryz.f3
 dsimp only
 refine start_ (n := 14) (S := fun w' => True) (ds := []) #[false, false, false, false, false, false, false, false, false, false, false, false, false, false] (by kernel_rfl) rfl rfl trivial (fun hHeld => ?_)
 clear hHeld
 refine inv_at (B := [0, 0, 0, 4, 15, 0, 0, 0, 159, 511, 0, 0, 4095, 8191]) [0, 1, 2, 3, 4, 5, 6, 7, 8, 9, 10, 11, 12, 13] (fun a0_ b a w' => ∃ A1 c1 A2 c2 X Y, a = putSel a0_ b [(0, 14, .agg #[.slice P2 p2 e2, .slice P3 p3 e3, .bool p4, .int .i64 p5]), (1, 15, .slice Ai L ci), (2, 16, .int .i64 f), (3, 17, .int .i64 sf), (4, 18, .agg #[.int .i64 pb.kind, .int .i64 pb.n, .slice A1 pb.out.length c1, .int .i64 pb.steps]), (5, 19, .agg #[.slice P2 p2 e2, .slice P3 p3 e3, .bool p4, .int .i64 p5]), (6, 20, .slice Ai L ci), (7, 21, .int .i64 f), (8, 22, .int .i64 sf), (9, 23, .agg #[.int .i64 pc.kind, .int .i64 pc.n, .slice A2 pc.out.length c2, .int .i64 pc.steps]), (10, 7, .pointer (some ⟨X, 0, none⟩)), (11, 8, .pointer (some ⟨Y, 0, none⟩))] ∧ Reg V [(b 4), (b 9), (b 10 && !b 12), (b 11 && !b 13), (b 12), (b 13)] [intsFa A1 pb.out, intsFa A2 pc.out, blkFa X zeroC, blkFa Y zeroC, blkFa X (endC pb A1 c1), blkFa Y (endC pc A2 c2)] w') rfl (by kernel_rfl) (by kernel_rfl) (by kernel_rfl) ?_ ?_ ?_
 · exact ⟨none, 0, none, 0, 0, 0, by simp only [putSel, Bool.false_eq_true, if_false], Reg.start D0.out (fun i => by match i with | 0 => rfl | 1 => rfl | 2 => rfl | 3 => rfl | 4 => rfl | 5 => rfl | i + 6 => simp)⟩
 · skip
   refine steps_cons ?_ ?_
   · rintro b a w' ⟨A1, c1, A2, c2, X, Y, ha, hI⟩ hb_ hon hoff
     refine ⟨_, rfl, fun K hK => ?_⟩
     have m3 : a.tmps[3]? = some (.pointer (some ⟨X3, 0, none⟩)) := by rw [ha]; exact (putSel_off rfl).trans rfl
     obtain ⟨z0, z1, z2, z3⟩ := HS.out w' hI.bel
     replace ha := Lib.hid ha
     have HI := Lib.hid hI
     clear hI
     refine value_ (w1 := w') (v := .agg #[.slice P2 p2 e2, .slice P3 p3 e3, .bool p4, .int .i64 p5]) (by rfl) rfl ?_ ?_
     · go_simp
       try rfl
     exact hK.out _ _ ⟨A1, c1, A2, c2, X, Y, (by rw [ha.out]; exact putSel_upk 0 hb_ rfl rfl rfl), (by have h := HI.out; have eb4 : up b 0 4 = b 4 := up_ne (by decide); have eb9 : up b 0 9 = b 9 := up_ne (by decide); have eb10 : up b 0 10 = b 10 := up_ne (by decide); have eb11 : up b 0 11 = b 11 := up_ne (by decide); have eb12 : up b 0 12 = b 12 := up_ne (by decide); have eb13 : up b 0 13 = b 13 := up_ne (by decide); rw [eb4, eb9, eb10, eb11, eb12, eb13]; exact h)⟩
   refine steps_cons ?_ ?_
   · rintro b a w' ⟨A1, c1, A2, c2, X, Y, ha, hI⟩ hb_ hon hoff
     refine ⟨_, rfl, fun K hK => ?_⟩
     have m1 : a.tmps[1]? = some (.slice Ai L ci) := by rw [ha]; exact (putSel_off rfl).trans rfl
     replace ha := Lib.hid ha
     have HI := Lib.hid hI
     clear hI
     refine value_ (w1 := w') (v := .slice Ai L ci) (by rfl) rfl ?_ ?_
     · go_simp
       try rfl
     exact hK.out _ _ ⟨A1, c1, A2, c2, X, Y, (by rw [ha.out]; exact putSel_upk 1 hb_ rfl rfl rfl), (by have h := HI.out; have eb4 : up b 1 4 = b 4 := up_ne (by decide); have eb9 : up b 1 9 = b 9 := up_ne (by decide); have eb10 : up b 1 10 = b 10 := up_ne (by decide); have eb11 : up b 1 11 = b 11 := up_ne (by decide); have eb12 : up b 1 12 = b 12 := up_ne (by decide); have eb13 : up b 1 13 = b 13 := up_ne (by decide); rw [eb4, eb9, eb10, eb11, eb12, eb13]; exact h)⟩
   refine steps_cons ?_ ?_
   · rintro b a w' ⟨A1, c1, A2, c2, X, Y, ha, hI⟩ hb_ hon hoff
     refine ⟨_, rfl, fun K hK => ?_⟩
     have m2 : a.tmps[2]? = some (.int .i64 f) := by rw [ha]; exact (putSel_off rfl).trans rfl
     replace ha := Lib.hid ha
     have HI := Lib.hid hI
     clear hI
     refine value_ (w1 := w') (v := .int .i64 f) (by rfl) rfl ?_ ?_
     · go_simp
       try rfl
     exact hK.out _ _ ⟨A1, c1, A2, c2, X, Y, (by rw [ha.out]; exact putSel_upk 2 hb_ rfl rfl rfl), (by have h := HI.out; have eb4 : up b 2 4 = b 4 := up_ne (by decide); have eb9 : up b 2 9 = b 9 := up_ne (by decide); have eb10 : up b 2 10 = b 10 := up_ne (by decide); have eb11 : up b 2 11 = b 11 := up_ne (by decide); have eb12 : up b 2 12 = b 12 := up_ne (by decide); have eb13 : up b 2 13 = b 13 := up_ne (by decide); rw [eb4, eb9, eb10, eb11, eb12, eb13]; exact h)⟩
   refine steps_cons ?_ ?_
   · rintro b a w' ⟨A1, c1, A2, c2, X, Y, ha, hI⟩ hb_ hon hoff
     refine ⟨_, rfl, fun K hK => ?_⟩
     have tq2 : a.tmps[16]? = some (.int .i64 f) := by rw [ha]; exact putSel_on (e := (2, 16, .int .i64 f)) 2 rfl rfl (hon 2 (by kernel_rfl)) rfl
     replace ha := Lib.hid ha
     have HI := Lib.hid hI
     clear hI
     refine goes_ Tryz.func8 (by kernel_rfl) rfl #[.int .i64 f] (by rfl) rfl rfl (by first | (simp only [List.map_toArray, List.map_cons, List.map_nil, Act.eval, Array.getD_eq_getD_getElem?, Option.getD_some, tq2]; done) | (simp only [List.map_toArray, List.map_cons, List.map_nil, Act.eval, Array.getD_eq_getD_getElem?, Option.getD_some, tq2]; rfl)) ?_
     refine (HSH.out w').mono ?_
     rintro e w2 ⟨rfl, rfl⟩
     exact ⟨_, rfl, hK.out _ _ ⟨A1, c1, A2, c2, X, Y, (by rw [ha.out]; exact putSel_upk 3 hb_ rfl rfl rfl), (by have h := HI.out; have eb4 : up b 3 4 = b 4 := up_ne (by decide); have eb9 : up b 3 9 = b 9 := up_ne (by decide); have eb10 : up b 3 10 = b 10 := up_ne (by decide); have eb11 : up b 3 11 = b 11 := up_ne (by decide); have eb12 : up b 3 12 = b 12 := up_ne (by decide); have eb13 : up b 3 13 = b 13 := up_ne (by decide); rw [eb4, eb9, eb10, eb11, eb12, eb13]; exact h)⟩⟩
   refine steps_cons ?_ ?_
   · rintro b a w' ⟨A1, c1, A2, c2, X, Y, ha, hI⟩ hb_ hon hoff
     refine ⟨_, rfl, fun K hK => ?_⟩
     have tq0 : a.tmps[14]? = some (.agg #[.slice P2 p2 e2, .slice P3 p3 e3, .bool p4, .int .i64 p5]) := by rw [ha]; exact putSel_on (e := (0, 14, .agg #[.slice P2 p2 e2, .slice P3 p3 e3, .bool p4, .int .i64 p5])) 0 rfl rfl (hon 0 (by kernel_rfl)) rfl
     have tq1 : a.tmps[15]? = some (.slice Ai L ci) := by rw [ha]; exact putSel_on (e := (1, 15, .slice Ai L ci)) 1 rfl rfl (hon 1 (by kernel_rfl)) rfl
     have tq3 : a.tmps[17]? = some (.int .i64 sf) := by rw [ha]; exact putSel_on (e := (3, 17, .int .i64 sf)) 3 rfl rfl (hon 3 (by kernel_rfl)) rfl
     replace ha := Lib.hid ha
     have HI := Lib.hid hI
     clear hI
     refine goes_ Tryz.func7 (by kernel_rfl) rfl #[.agg #[.slice P2 p2 e2, .slice P3 p3 e3, .bool p4, .int .i64 p5], .slice Ai L ci, .int .i64 sf] (by rfl) rfl rfl (by first | (simp only [List.map_toArray, List.map_cons, List.map_nil, Act.eval, Array.getD_eq_getD_getElem?, Option.getD_some, tq0, tq1, tq3]; done) | (simp only [List.map_toArray, List.map_cons, List.map_nil, Act.eval, Array.getD_eq_getD_getElem?, Option.getD_some, tq0, tq1, tq3]; rfl)) ?_
     refine (HRB.out w' HI.out.bel).mono ?_
     rintro e w2 ⟨v, A_, c_, rfl, rfl, hE, hb2, hlo⟩
     obtain ⟨A', c', heq, hi⟩ := hE
     simp only [Value.agg.injEq, Array.mk.injEq, List.cons.injEq, Value.slice.injEq, true_and, and_true] at heq
     obtain ⟨rfl, rfl⟩ := heq
     exact ⟨_, rfl, hK.out _ _ ⟨A_, c_, A2, c2, X, Y, (by rw [ha.out]; exact putSel_upk 4 hb_ rfl rfl rfl), HI.out.ints 0 hb2 rfl hi hlo (by intro j hj hc; have eb9 : up b 4 9 = b 9 := up_ne (by decide); have eb10 : up b 4 10 = b 10 := up_ne (by decide); have eb11 : up b 4 11 = b 11 := up_ne (by decide); have eb12 : up b 4 12 = b 12 := up_ne (by decide); have eb13 : up b 4 13 = b 13 := up_ne (by decide); have eb4 : up b 4 4 = true := up_self _ _; match j, hj, hc with | 0, hj, hc => exact absurd rfl hj | 1, hj, hc => (change (up b 4 9) = true at hc; rw [eb9, hoff 9 (by kernel_rfl)] at hc; simp at hc) | 2, hj, hc => (change (up b 4 10 && !up b 4 12) = true at hc; rw [eb10, eb12] at hc; exact ⟨hc, rfl⟩) | 3, hj, hc => (change (up b 4 11 && !up b 4 13) = true at hc; rw [eb11, eb13] at hc; exact ⟨hc, rfl⟩) | 4, hj, hc => (change (up b 4 12) = true at hc; rw [eb12, hoff 12 (by kernel_rfl)] at hc; simp at hc) | 5, hj, hc => (change (up b 4 13) = true at hc; rw [eb13, hoff 13 (by kernel_rfl)] at hc; simp at hc) | j + 6, hj, hc => simp at hc)⟩⟩
   refine steps_cons ?_ ?_
   · rintro b a w' ⟨A1, c1, A2, c2, X, Y, ha, hI⟩ hb_ hon hoff
     refine ⟨_, rfl, fun K hK => ?_⟩
     have m3 : a.tmps[3]? = some (.pointer (some ⟨X3, 0, none⟩)) := by rw [ha]; exact (putSel_off rfl).trans rfl
     obtain ⟨z0, z1, z2, z3⟩ := HS.out w' hI.bel
     replace ha := Lib.hid ha
     have HI := Lib.hid hI
     clear hI
     refine value_ (w1 := w') (v := .agg #[.slice P2 p2 e2, .slice P3 p3 e3, .bool p4, .int .i64 p5]) (by rfl) rfl ?_ ?_
     · go_simp
       try rfl
     exact hK.out _ _ ⟨A1, c1, A2, c2, X, Y, (by rw [ha.out]; exact putSel_upk 5 hb_ rfl rfl rfl), (by have h := HI.out; have eb4 : up b 5 4 = b 4 := up_ne (by decide); have eb9 : up b 5 9 = b 9 := up_ne (by decide); have eb10 : up b 5 10 = b 10 := up_ne (by decide); have eb11 : up b 5 11 = b 11 := up_ne (by decide); have eb12 : up b 5 12 = b 12 := up_ne (by decide); have eb13 : up b 5 13 = b 13 := up_ne (by decide); rw [eb4, eb9, eb10, eb11, eb12, eb13]; exact h)⟩
   refine steps_cons ?_ ?_
   · rintro b a w' ⟨A1, c1, A2, c2, X, Y, ha, hI⟩ hb_ hon hoff
     refine ⟨_, rfl, fun K hK => ?_⟩
     have m1 : a.tmps[1]? = some (.slice Ai L ci) := by rw [ha]; exact (putSel_off rfl).trans rfl
     replace ha := Lib.hid ha
     have HI := Lib.hid hI
     clear hI
     refine value_ (w1 := w') (v := .slice Ai L ci) (by rfl) rfl ?_ ?_
     · go_simp
       try rfl
     exact hK.out _ _ ⟨A1, c1, A2, c2, X, Y, (by rw [ha.out]; exact putSel_upk 6 hb_ rfl rfl rfl), (by have h := HI.out; have eb4 : up b 6 4 = b 4 := up_ne (by decide); have eb9 : up b 6 9 = b 9 := up_ne (by decide); have eb10 : up b 6 10 = b 10 := up_ne (by decide); have eb11 : up b 6 11 = b 11 := up_ne (by decide); have eb12 : up b 6 12 = b 12 := up_ne (by decide); have eb13 : up b 6 13 = b 13 := up_ne (by decide); rw [eb4, eb9, eb10, eb11, eb12, eb13]; exact h)⟩
   refine steps_cons ?_ ?_
   · rintro b a w' ⟨A1, c1, A2, c2, X, Y, ha, hI⟩ hb_ hon hoff
     refine ⟨_, rfl, fun K hK => ?_⟩
     have m2 : a.tmps[2]? = some (.int .i64 f) := by rw [ha]; exact (putSel_off rfl).trans rfl
     replace ha := Lib.hid ha
     have HI := Lib.hid hI
     clear hI
     refine value_ (w1 := w') (v := .int .i64 f) (by rfl) rfl ?_ ?_
     · go_simp
       try rfl
     exact hK.out _ _ ⟨A1, c1, A2, c2, X, Y, (by rw [ha.out]; exact putSel_upk 7 hb_ rfl rfl rfl), (by have h := HI.out; have eb4 : up b 7 4 = b 4 := up_ne (by decide); have eb9 : up b 7 9 = b 9 := up_ne (by decide); have eb10 : up b 7 10 = b 10 := up_ne (by decide); have eb11 : up b 7 11 = b 11 := up_ne (by decide); have eb12 : up b 7 12 = b 12 := up_ne (by decide); have eb13 : up b 7 13 = b 13 := up_ne (by decide); rw [eb4, eb9, eb10, eb11, eb12, eb13]; exact h)⟩
   refine steps_cons ?_ ?_
   · rintro b a w' ⟨A1, c1, A2, c2, X, Y, ha, hI⟩ hb_ hon hoff
     refine ⟨_, rfl, fun K hK => ?_⟩
     have tq2 : a.tmps[21]? = some (.int .i64 f) := by rw [ha]; exact putSel_on (e := (7, 21, .int .i64 f)) 7 rfl rfl (hon 7 (by kernel_rfl)) rfl
     replace ha := Lib.hid ha
     have HI := Lib.hid hI
     clear hI
     refine goes_ Tryz.func8 (by kernel_rfl) rfl #[.int .i64 f] (by rfl) rfl rfl (by first | (simp only [List.map_toArray, List.map_cons, List.map_nil, Act.eval, Array.getD_eq_getD_getElem?, Option.getD_some, tq2]; done) | (simp only [List.map_toArray, List.map_cons, List.map_nil, Act.eval, Array.getD_eq_getD_getElem?, Option.getD_some, tq2]; rfl)) ?_
     refine (HSH.out w').mono ?_
     rintro e w2 ⟨rfl, rfl⟩
     exact ⟨_, rfl, hK.out _ _ ⟨A1, c1, A2, c2, X, Y, (by rw [ha.out]; exact putSel_upk 8 hb_ rfl rfl rfl), (by have h := HI.out; have eb4 : up b 8 4 = b 4 := up_ne (by decide); have eb9 : up b 8 9 = b 9 := up_ne (by decide); have eb10 : up b 8 10 = b 10 := up_ne (by decide); have eb11 : up b 8 11 = b 11 := up_ne (by decide); have eb12 : up b 8 12 = b 12 := up_ne (by decide); have eb13 : up b 8 13 = b 13 := up_ne (by decide); rw [eb4, eb9, eb10, eb11, eb12, eb13]; exact h)⟩⟩
   refine steps_cons ?_ ?_
   · rintro b a w' ⟨A1, c1, A2, c2, X, Y, ha, hI⟩ hb_ hon hoff
     refine ⟨_, rfl, fun K hK => ?_⟩
     have tq0 : a.tmps[19]? = some (.agg #[.slice P2 p2 e2, .slice P3 p3 e3, .bool p4, .int .i64 p5]) := by rw [ha]; exact putSel_on (e := (5, 19, .agg #[.slice P2 p2 e2, .slice P3 p3 e3, .bool p4, .int .i64 p5])) 5 rfl rfl (hon 5 (by kernel_rfl)) rfl
     have tq1 : a.tmps[20]? = some (.slice Ai L ci) := by rw [ha]; exact putSel_on (e := (6, 20, .slice Ai L ci)) 6 rfl rfl (hon 6 (by kernel_rfl)) rfl
     have tq3 : a.tmps[22]? = some (.int .i64 sf) := by rw [ha]; exact putSel_on (e := (8, 22, .int .i64 sf)) 8 rfl rfl (hon 8 (by kernel_rfl)) rfl
     replace ha := Lib.hid ha
     have HI := Lib.hid hI
     clear hI
     refine goes_ Tryz.func9 (by kernel_rfl) rfl #[.agg #[.slice P2 p2 e2, .slice P3 p3 e3, .bool p4, .int .i64 p5], .slice Ai L ci, .int .i64 sf] (by rfl) rfl rfl (by first | (simp only [List.map_toArray, List.map_cons, List.map_nil, Act.eval, Array.getD_eq_getD_getElem?, Option.getD_some, tq0, tq1, tq3]; done) | (simp only [List.map_toArray, List.map_cons, List.map_nil, Act.eval, Array.getD_eq_getD_getElem?, Option.getD_some, tq0, tq1, tq3]; rfl)) ?_
     refine (HRC.out w' HI.out.bel).mono ?_
     rintro e w2 ⟨v, A_, c_, rfl, rfl, hE, hb2, hlo⟩
     obtain ⟨A', c', heq, hi⟩ := hE
     simp only [Value.agg.injEq, Array.mk.injEq, List.cons.injEq, Value.slice.injEq, true_and, and_true] at heq
     obtain ⟨rfl, rfl⟩ := heq
     exact ⟨_, rfl, hK.out _ _ ⟨A1, c1, A_, c_, X, Y, (by rw [ha.out]; exact putSel_upk 9 hb_ rfl rfl rfl), HI.out.ints 1 hb2 rfl hi hlo (by intro j hj hc; have eb4 : up b 9 4 = b 4 := up_ne (by decide); have eb10 : up b 9 10 = b 10 := up_ne (by decide); have eb11 : up b 9 11 = b 11 := up_ne (by decide); have eb12 : up b 9 12 = b 12 := up_ne (by decide); have eb13 : up b 9 13 = b 13 := up_ne (by decide); have eb9 : up b 9 9 = true := up_self _ _; match j, hj, hc with | 0, hj, hc => (change (up b 9 4) = true at hc; rw [eb4] at hc; exact ⟨hc, rfl⟩) | 1, hj, hc => exact absurd rfl hj | 2, hj, hc => (change (up b 9 10 && !up b 9 12) = true at hc; rw [eb10, eb12] at hc; exact ⟨hc, rfl⟩) | 3, hj, hc => (change (up b 9 11 && !up b 9 13) = true at hc; rw [eb11, eb13] at hc; exact ⟨hc, rfl⟩) | 4, hj, hc => (change (up b 9 12) = true at hc; rw [eb12, hoff 12 (by kernel_rfl)] at hc; simp at hc) | 5, hj, hc => (change (up b 9 13) = true at hc; rw [eb13, hoff 13 (by kernel_rfl)] at hc; simp at hc) | j + 6, hj, hc => simp at hc)⟩⟩
   refine steps_cons ?_ ?_
   · rintro b a w' ⟨A1, c1, A2, c2, X, Y, ha, hI⟩ hb_ hon hoff
     refine ⟨_, rfl, fun K hK => ?_⟩
     replace ha := Lib.hid ha
     have HI := Lib.hid hI
     clear hI
     refine value_ (w1 := w'.alloc (.cells #[.int .i64 0, .int .i64 0, .slice none 0 0, .int .i64 0] 35)) (v := .pointer (some ⟨w'.heap.size, 0, none⟩)) (by rfl) rfl ?_ ?_
     · go_simp
       try rfl
     exact hK.out _ _ ⟨A1, c1, A2, c2, w'.heap.size, Y, (by rw [ha.out]; exact putSel_upk 10 hb_ rfl rfl rfl), HI.out.new 2 rfl (by intro j hj hc; have eb4 : up b 10 4 = b 4 := up_ne (by decide); have eb9 : up b 10 9 = b 9 := up_ne (by decide); have eb11 : up b 10 11 = b 11 := up_ne (by decide); have eb12 : up b 10 12 = b 12 := up_ne (by decide); have eb13 : up b 10 13 = b 13 := up_ne (by decide); have eb10 : up b 10 10 = true := up_self _ _; match j, hj, hc with | 0, hj, hc => (change (up b 10 4) = true at hc; rw [eb4] at hc; exact ⟨hc, rfl⟩) | 1, hj, hc => (change (up b 10 9) = true at hc; rw [eb9] at hc; exact ⟨hc, rfl⟩) | 2, hj, hc => exact absurd rfl hj | 3, hj, hc => (change (up b 10 11 && !up b 10 13) = true at hc; rw [eb11, eb13] at hc; exact ⟨hc, rfl⟩) | 4, hj, hc => (change (up b 10 12) = true at hc; rw [eb12, hoff 12 (by kernel_rfl)] at hc; simp at hc) | 5, hj, hc => (change (up b 10 13) = true at hc; rw [eb13, hoff 13 (by kernel_rfl)] at hc; simp at hc) | j + 6, hj, hc => simp at hc)⟩
   refine steps_cons ?_ ?_
   · rintro b a w' ⟨A1, c1, A2, c2, X, Y, ha, hI⟩ hb_ hon hoff
     refine ⟨_, rfl, fun K hK => ?_⟩
     replace ha := Lib.hid ha
     have HI := Lib.hid hI
     clear hI
     refine value_ (w1 := w'.alloc (.cells #[.int .i64 0, .int .i64 0, .slice none 0 0, .int .i64 0] 35)) (v := .pointer (some ⟨w'.heap.size, 0, none⟩)) (by rfl) rfl ?_ ?_
     · go_simp
       try rfl
     exact hK.out _ _ ⟨A1, c1, A2, c2, X, w'.heap.size, (by rw [ha.out]; exact putSel_upk 11 hb_ rfl rfl rfl), HI.out.new 3 rfl (by intro j hj hc; have eb4 : up b 11 4 = b 4 := up_ne (by decide); have eb9 : up b 11 9 = b 9 := up_ne (by decide); have eb10 : up b 11 10 = b 10 := up_ne (by decide); have eb12 : up b 11 12 = b 12 := up_ne (by decide); have eb13 : up b 11 13 = b 13 := up_ne (by decide); have eb11 : up b 11 11 = true := up_self _ _; match j, hj, hc with | 0, hj, hc => (change (up b 11 4) = true at hc; rw [eb4] at hc; exact ⟨hc, rfl⟩) | 1, hj, hc => (change (up b 11 9) = true at hc; rw [eb9] at hc; exact ⟨hc, rfl⟩) | 2, hj, hc => (change (up b 11 10 && !up b 11 12) = true at hc; rw [eb10, eb12] at hc; exact ⟨hc, rfl⟩) | 3, hj, hc => exact absurd rfl hj | 4, hj, hc => (change (up b 11 12) = true at hc; rw [eb12, hoff 12 (by kernel_rfl)] at hc; simp at hc) | 5, hj, hc => (change (up b 11 13) = true at hc; rw [eb13, hoff 13 (by kernel_rfl)] at hc; simp at hc) | j + 6, hj, hc => simp at hc)⟩
   refine steps_cons ?_ ?_
   · rintro b a w' ⟨A1, c1, A2, c2, X, Y, ha, hI⟩ hb_ hon hoff
     refine ⟨_, rfl, fun K hK => ?_⟩
     have tq4 : a.tmps[18]? = some (.agg #[.int .i64 pb.kind, .int .i64 pb.n, .slice A1 pb.out.length c1, .int .i64 pb.steps]) := by rw [ha]; exact putSel_on (e := (4, 18, .agg #[.int .i64 pb.kind, .int .i64 pb.n, .slice A1 pb.out.length c1, .int .i64 pb.steps])) 4 rfl rfl (hon 4 (by kernel_rfl)) rfl
     have tq7 : a.tmps[7]? = some (.pointer (some ⟨X, 0, none⟩)) := by rw [ha]; exact putSel_on (e := (10, 7, .pointer (some ⟨X, 0, none⟩))) 10 rfl rfl (hon 10 (by kernel_rfl)) rfl
     obtain ⟨y0, y1, y2, y3, y4⟩ := zeroC_cells ((hI.hold 2 (by show (b 10 && !b 12) = true; rw [hon 10 (by kernel_rfl), hb_]; try rfl)).1)
     replace ha := Lib.hid ha
     have HI := Lib.hid hI
     clear hI
     refine skip_ (w1 := setE w' X pb A1 c1) (by rfl) rfl ?_ ?_
     · unfold setE
       go_simp
       try rfl
     exact hK.out _ _ ⟨A1, c1, A2, c2, X, Y, (by rw [ha.out]; exact (putSel_skipY rfl).symm), HI.out.turn 2 4 (by show (b 10 && !b 12) = true; rw [hon 10 (by kernel_rfl), hb_]; try rfl) rfl (chg_setE _ _ _ _ _) rfl (setE_self (HI.out.hold 2 (by show (b 10 && !b 12) = true; rw [hon 10 (by kernel_rfl), hb_]; try rfl)).1 _ _ _) (by intro j hj hc; have eb4 : up b 12 4 = b 4 := up_ne (by decide); have eb9 : up b 12 9 = b 9 := up_ne (by decide); have eb10 : up b 12 10 = b 10 := up_ne (by decide); have eb11 : up b 12 11 = b 11 := up_ne (by decide); have eb13 : up b 12 13 = b 13 := up_ne (by decide); have eb12 : up b 12 12 = true := up_self _ _; match j, hj, hc with | 0, hj, hc => (change (up b 12 4) = true at hc; rw [eb4] at hc; exact ⟨hc, rfl, by decide⟩) | 1, hj, hc => (change (up b 12 9) = true at hc; rw [eb9] at hc; exact ⟨hc, rfl, by decide⟩) | 2, hj, hc => (change (up b 12 10 && !up b 12 12) = true at hc; rw [eb10, eb12] at hc; simp at hc) | 3, hj, hc => (change (up b 12 11 && !up b 12 13) = true at hc; rw [eb11, eb13] at hc; exact ⟨hc, rfl, by decide⟩) | 4, hj, hc => exact absurd rfl hj | 5, hj, hc => (change (up b 12 13) = true at hc; rw [eb13, hoff 13 (by kernel_rfl)] at hc; simp at hc) | j + 6, hj, hc => simp at hc)⟩
   refine steps_cons ?_ ?_
   · rintro b a w' ⟨A1, c1, A2, c2, X, Y, ha, hI⟩ hb_ hon hoff
     refine ⟨_, rfl, fun K hK => ?_⟩
     have tq9 : a.tmps[23]? = some (.agg #[.int .i64 pc.kind, .int .i64 pc.n, .slice A2 pc.out.length c2, .int .i64 pc.steps]) := by rw [ha]; exact putSel_on (e := (9, 23, .agg #[.int .i64 pc.kind, .int .i64 pc.n, .slice A2 pc.out.length c2, .int .i64 pc.steps])) 9 rfl rfl (hon 9 (by kernel_rfl)) rfl
     have tq8 : a.tmps[8]? = some (.pointer (some ⟨Y, 0, none⟩)) := by rw [ha]; exact putSel_on (e := (11, 8, .pointer (some ⟨Y, 0, none⟩))) 11 rfl rfl (hon 11 (by kernel_rfl)) rfl
     obtain ⟨y0, y1, y2, y3, y4⟩ := zeroC_cells ((hI.hold 3 (by show (b 11 && !b 13) = true; rw [hon 11 (by kernel_rfl), hb_]; try rfl)).1)
     replace ha := Lib.hid ha
     have HI := Lib.hid hI
     clear hI
     refine skip_ (w1 := setE w' Y pc A2 c2) (by rfl) rfl ?_ ?_
     · unfold setE
       go_simp
       try rfl
     exact hK.out _ _ ⟨A1, c1, A2, c2, X, Y, (by rw [ha.out]; exact (putSel_skipY rfl).symm), HI.out.turn 3 5 (by show (b 11 && !b 13) = true; rw [hon 11 (by kernel_rfl), hb_]; try rfl) rfl (chg_setE _ _ _ _ _) rfl (setE_self (HI.out.hold 3 (by show (b 11 && !b 13) = true; rw [hon 11 (by kernel_rfl), hb_]; try rfl)).1 _ _ _) (by intro j hj hc; have eb4 : up b 13 4 = b 4 := up_ne (by decide); have eb9 : up b 13 9 = b 9 := up_ne (by decide); have eb10 : up b 13 10 = b 10 := up_ne (by decide); have eb11 : up b 13 11 = b 11 := up_ne (by decide); have eb12 : up b 13 12 = b 12 := up_ne (by decide); have eb13 : up b 13 13 = true := up_self _ _; match j, hj, hc with | 0, hj, hc => (change (up b 13 4) = true at hc; rw [eb4] at hc; exact ⟨hc, rfl, by decide⟩) | 1, hj, hc => (change (up b 13 9) = true at hc; rw [eb9] at hc; exact ⟨hc, rfl, by decide⟩) | 2, hj, hc => (change (up b 13 10 && !up b 13 12) = true at hc; rw [eb10, eb12] at hc; exact ⟨hc, rfl, by decide⟩) | 3, hj, hc => (change (up b 13 11 && !up b 13 13) = true at hc; rw [eb11, eb13] at hc; simp at hc) | 4, hj, hc => (change (up b 13 12) = true at hc; rw [eb12] at hc; exact ⟨hc, rfl, by decide⟩) | 5, hj, hc => exact absurd rfl hj | j + 6, hj, hc => simp at hc)⟩
   exact steps_nil
 rintro b a w' hall ⟨A1, c1, A2, c2, X, Y, ha, hI⟩
 have hl : ∀ j, j ≤ 13 → b j = true := fun j hj => hall j (by
  have : j = 0 ∨ j = 1 ∨ j = 2 ∨ j = 3 ∨ j = 4 ∨ j = 5 ∨ j = 6 ∨ j = 7 ∨ j = 8 ∨ j = 9 ∨ j = 10 ∨ j = 11 ∨ j = 12 ∨ j = 13 := by omega
  rcases this with rfl | rfl | rfl | rfl | rfl | rfl | rfl | rfl | rfl | rfl | rfl | rfl | rfl | rfl <;> rfl)
 have b0 := hl 0 (by decide)
 have b1 := hl 1 (by decide)
 have b2 := hl 2 (by decide)
 have b3 := hl 3 (by decide)
 have b4 := hl 4 (by decide)
 have b5 := hl 5 (by decide)
 have b6 := hl 6 (by decide)
 have b7 := hl 7 (by decide)
 have b8 := hl 8 (by decide)
 have b9 := hl 9 (by decide)
 have b10 := hl 10 (by decide)
 have b11 := hl 11 (by decide)
 have b12 := hl 12 (by decide)
 have b13 := hl 13 (by decide)
 have f0 := (hI.hold 0 (by show (b 4) = true; rw [b4]; try rfl)).1
 have f1 := (hI.hold 1 (by show (b 9) = true; rw [b9]; try rfl)).1
 have f4 := (hI.hold 4 (by show (b 12) = true; rw [b12]; try rfl)).1
 have f5 := (hI.hold 5 (by show (b 13) = true; rw [b13]; try rfl)).1
 have hbel := hI.bel
 have HREG := Lib.hid hI
 clear hI
 subst ha
 simp only [putSel, b0, b1, b2, b3, b4, b5, b6, b7, b8, b9, b10, b11, if_true, Act.put, List.setIfInBounds_toArray, List.set_cons_zero, List.set_cons_succ, Exit.then]
 exact HK0.out _ _ (HEND.out _ X Y hbel ⟨A1, c1, f4, f0⟩ ⟨A2, c2, f5, f1⟩ _ _ _ _ _ _ _ _ _ _ _ _ _ _ _ _ _ _ _ _ _ _ _ _ _ _ _ _ _ _ _ _ _ _ _ _ _ _ _)
theorem ru_walk {p : FlatP} {v : Array Value} (W : World) (hin : FlatIn W.heap.size W p v) (hrg : (∀ g ∈ p.funs, rngA g.body) ∧ rngA p.main) (inp : List Int) (Ai : Option Addr) (ci : Nat) (hi : IntsIn W.heap.size W Ai inp) (hci : inp.length ≤ ci) (f : Int) :
 Calls Tryz.prog 3 #[.agg v, .slice Ai inp.length ci, .int .i64 f] W (BoolBelow true W) := by
 obtain ⟨Af, nf, cf, A1, n1, d1, b1, k1, rfl⟩ := hin.shape
 obtain ⟨W0, hW0⟩ : ∃ W0, W.alloc (.cells #[.slice Af nf cf, .slice A1 n1 d1, .bool b1, .int .i64 k1] 29) = W0 := ⟨_, rfl⟩
 have hb0 : Below W.heap.size W W0 := by rw [← hW0]; exact (Below.refl _ _).alloc (Nat.le_refl _) _
 have h0 : W0.heap[W.heap.size]? = some (.cells #[.slice Af nf cf, .slice A1 n1 d1, .bool b1, .int .i64 k1] 29 (0, 0)) := by rw [← hW0]; exact World.alloc_heap_new W _
 have HS := Lib.hid (fun (V2 : World) (h : Below W0.heap.size W0 V2) => (show V2.cell? ⟨W.heap.size, 0, none⟩ = some (.slice Af nf cf) ∧ V2.cell? ⟨W.heap.size, 1, none⟩ = some (.slice A1 n1 d1) ∧ V2.cell? ⟨W.heap.size, 2, none⟩ = some (.bool b1) ∧ V2.cell? ⟨W.heap.size, 3, none⟩ = some (.int .i64 k1) from by
  have h' := (h.block _ (heap_lt h0)).trans h0
  exact ⟨by simp [World.cell?, h'], by simp [World.cell?, h'], by simp [World.cell?, h'], by simp [World.cell?, h']⟩))
 have hin0 := hin.later hb0
 have hi0 := (hi.below hb0).mono hb0.size
 have HF := Lib.hid (fewF_any W0 hin0 inp Ai ci)
 have HB := Lib.hid hb0
 obtain ⟨z0, z1, z2, z3⟩ := HS.out W0 (Below.refl _ _)
 cases hfw : fewF p inp with
 | false =>
  rw [hfw] at HF
  clear hin hi hin0 hi0 hrg hfw hb0 h0 hci
  generalize inp.length = L at *
  go_enter Tryz.func3, Tryz.ntmps3
  go_wp2_with (first | (go_at_call 5; refine HF.out.mono ?_; rintro e w1 ⟨rfl, hb1⟩) | (go_at_call 6; refine (knows_any _).mono ?_; rintro e w8 ⟨rfl, hb8⟩))
  go_ret
  have h1 := HB.out.trans (hb1.mono HB.out.size)
  exact ⟨rfl, h1.trans (hb8.mono h1.size)⟩
 | true =>
  rw [hfw] at HF
  have hsm : SmallF p := few_small hfw hrg
  have HGO := Lib.hid (fun (V2 : World) (h : Below W0.heap.size W0 V2) (y0 y4 y5 y6 y7 y8 y9 y10 y11 y12 y13 y14 y15 y16 y17 y18 y19 y20 y21 y22 y23 y24 y25 y26 y27 y28 y29 y30 y31 y32 y33 y34 y35 y36 y37 y38 y39 y40 : Value) =>
   (show ∀ K : Act → World → Prop, (∀ a w, ruT4.wp Tryz.prog (bodyPost Tryz.prog Tryz.f3 (BoolBelow true W)) a w → K a w) → ruR3.wp Tryz.prog (Exit.then K (bodyPost Tryz.prog Tryz.f3 (BoolBelow true W))) { tmps := #[y0, .slice Ai inp.length ci, .int .i64 f, .pointer (some ⟨W.heap.size, 0, none⟩), y4, y5, y6, y7, y8, y9, y10, y11, y12, y13, y14, y15, y16, y17, y18, y19, y20, y21, y22, y23, y24, y25, y26, y27, y28, y29, y30, y31, y32, y33, y34, y35, y36, y37, y38, y39, y40], defers := [] } V2 from
    ru_runs (sf := min f 1500) (pb := runE p inp (min f 1500)) (pc := runE p inp (min f 1500)) (hb0.trans (h.mono hb0.size)) ⟨by simp [sameE], rfl⟩ (runE_right p inp _) (fun V3 h3 => HS.out V3 (h.trans (h3.mono h.size))) (fun V3 => short_any f V3)
     (fun V3 h3 => by
      have h4 := h.trans (h3.mono h.size)
      exact run_ready (hin0.later h4) hsm ((hi0.below h4).mono h4.size) hci (min f 1500))
     (fun V3 h3 => by
      have h4 := h.trans (h3.mono h.size)
      exact rrun_ready (hin0.later h4) hsm hfw ((hi0.below h4).mono h4.size) hci (min f 1500)) _ _ _ _ _ _ _ _ _ _ _ _ _ _ _ _ _ _ _ _ _ _ _ _ _ _ _ _ _ _ _ _ _ _ _ _ _ _))
  clear hin hi hin0 hi0 hrg hfw hb0 h0 hci hsm
  generalize inp.length = L at *
  go_enter Tryz.func3, Tryz.ntmps3
  go_wp2_with (first | (go_at_call 5; refine HF.out.mono ?_; rintro e w1 ⟨rfl, hb1⟩))
  exact HGO.out w1 hb1 _ _ _ _ _ _ _ _ _ _ _ _ _ _ _ _ _ _ _ _ _ _ _ _ _ _ _ _ _ _ _ _ _ _ _ _ _ _ _ ‹∀ (a : Act) (w : World), Code.wp Tryz.prog _ _ a w → _›
end Go.Proofs.YtnobggabjpcbfaaGreat
