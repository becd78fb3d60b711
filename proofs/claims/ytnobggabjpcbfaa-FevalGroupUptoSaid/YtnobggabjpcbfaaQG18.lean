/-
  1 texts of this seat in one: Y9.
-/
import Derived.Test.YtnobggabjpcbfaaQG17
/-
  FevalGroup: the walk.
-/
set_option linter.unusedVariables false
set_option linter.unusedSimpArgs false
namespace Go.Proofs.Ytnobggabjpcbfaa
open Go.RowKit

noncomputable def grR11 : Code := match Try.f5.body with
  | some (.seq _ (.seq _ (.seq _ (.seq _ (.seq _ (.seq c _)))))) => c
  | _ => .skip
noncomputable def grT12 : Code := match Try.f5.body with
  | some (.seq _ (.seq _ (.seq _ (.seq _ (.seq _ (.seq _ c)))))) => c
  | _ => .skip
noncomputable def grT9 : Code := match Try.f5.body with
  | some (.seq _ (.seq _ (.seq _ (.seq _ c)))) => c
  | _ => .skip
noncomputable def grC0 : Code := match Try.f5.body with
  | some (.seq c _) => c
  | _ => .skip
noncomputable def grC1 : Code := match Try.f5.body with
  | some (.seq _ (.seq c _)) => c
  | _ => .skip
noncomputable def grC2 : Code := match Try.f5.body with
  | some (.seq _ (.seq _ (.seq c _))) => c
  | _ => .skip
noncomputable def grC3 : Code := match Try.f5.body with
  | some (.seq _ (.seq _ (.seq _ (.seq c _)))) => c
  | _ => .skip
set_option maxRecDepth 100000 in
set_option maxHeartbeats 16000000 in
theorem gr_tail12 {W V : World} (hb : Below W.heap.size W V) {X7 X8 : Nat} {pa pb : PEnd} (ha : EndAt V X7 pa) (hb2 : EndAt V X8 pb) (hsame : sameE pa pb = true ∧ pa.steps = pb.steps) (hkn : ∀ V2, Below V.heap.size V V2 → Calls Try.prog 8 #[] V2 (BoolBelow true V2)) (u0 u1 u2 u3 u4 u5 u6 u7 u8 u9 u12 u13 u14 u15 u16 u17 u18 u19 u20 u21 u22 u23 u24 u25 u26 u27 u28 u29 u30 u31 u32 u33 u34 u35 u36 u37 u38 u39 u40 u41 u42 u43 u44 u45 u46 u47 u48 u49 u50 u51 u52 u53 u54 u55 u56 u57 u58 u59 u60 u61 u62 u63 u64 u65 u66 u67 u68 u69 u70 u71 u72 u73 : Value) :
    grT12.wp Try.prog (bodyPost Try.prog Try.f5 (BoolBelow true W)) { tmps := #[u0, u1, u2, u3, u4, u5, u6, u7, u8, u9, .pointer (some ⟨X7, 0, none⟩), .pointer (some ⟨X8, 0, none⟩), u12, u13, u14, u15, u16, u17, u18, u19, u20, u21, u22, u23, u24, u25, u26, u27, u28, u29, u30, u31, u32, u33, u34, u35, u36, u37, u38, u39, u40, u41, u42, u43, u44, u45, u46, u47, u48, u49, u50, u51, u52, u53, u54, u55, u56, u57, u58, u59, u60, u61, u62, u63, u64, u65, u66, u67, u68, u69, u70, u71, u72, u73], defers := [] } V := by
  obtain ⟨A, c, a0, a1, a2, a3, hia⟩ := endAt_cells ha
  obtain ⟨B, d, b0, b1, b2, b3, hib⟩ := endAt_cells hb2
  have HS1 := Lib.hid (same_any (v := .agg #[.int .i64 pa.kind, .int .i64 pa.n, .slice A pa.out.length c, .int .i64 pa.steps]) (u := .agg #[.int .i64 pb.kind, .int .i64 pb.n, .slice B pb.out.length d, .int .i64 pb.steps]) V ⟨A, c, rfl, hia⟩ ⟨B, d, rfl, hib⟩)
  rw [hsame.1] at HS1
  have HK := Lib.hid hkn
  have HB := Lib.hid hb
  have HC := Lib.hid (fun (V2 : World) (h : Below V.heap.size V V2) => (show V2.cell? ⟨X7, 3, none⟩ = some (.int .i64 pa.steps) ∧ V2.cell? ⟨X8, 3, none⟩ = some (.int .i64 pb.steps) from
    ⟨cell_behind h a3, cell_behind h b3⟩))
  have hst3 : ((pa.steps : Int) == (pb.steps : Int)) = true := by rw [hsame.2]; simp
  clear hia hib hb ha hb2 hsame hkn
  obtain ⟨Q, hQ⟩ : ∃ Q, (bodyPost Try.prog Try.f5 (BoolBelow true W)) = Q := ⟨_, rfl⟩
  have HQ := Lib.hid hQ
  rw [hQ]
  clear hQ
  unfold grT12 Try.f5
  dsimp only
  go_wp2_with (first
    | (go_at_call 11; refine HS1.out.mono ?_; rintro en V2 ⟨rfl, hv2⟩; obtain ⟨q3, q4⟩ := HC.out _ hv2)
    | (go_at_call 8; refine (HK.out _ hv2).mono ?_; rintro en V4 ⟨rfl, hv4⟩))
  rw [← HQ.out]
  go_ret
  have h1 := HB.out.trans (hv2.mono HB.out.size)
  exact ⟨rfl, h1.trans (hv4.mono h1.size)⟩
open Go.Proofs.YtnobggabjpcbfaaW.PrintWords Go.Proofs.YtnobggabjpcbfaaW.PrintLast in
set_option maxRecDepth 100000 in
set_option maxHeartbeats 16000000 in
theorem gr_runs11 {W V : World} (hb : Below W.heap.size W V) {X3 X4 L ci p2 p3 e2 e3 g2 g3 h2 h3 : Nat} {Ai P2 P3 G2 G3 : Option Addr} {p4 : Bool} {p5 f sf : Int} {g4 : Bool} {g5 : Int} {pb pc : PEnd} (hsame : sameE pb pc = true ∧ pb.steps = pc.steps)
    (hS : ∀ V2, Below V.heap.size V V2 → V2.cell? ⟨X3, 0, none⟩ = some (.slice P2 p2 e2) ∧ V2.cell? ⟨X3, 1, none⟩ = some (.slice P3 p3 e3) ∧ V2.cell? ⟨X3, 2, none⟩ = some (.bool p4) ∧ V2.cell? ⟨X3, 3, none⟩ = some (.int .i64 p5))
    (hS2 : ∀ V2, Below V.heap.size V V2 → V2.cell? ⟨X4, 0, none⟩ = some (.slice G2 g2 h2) ∧ V2.cell? ⟨X4, 1, none⟩ = some (.slice G3 g3 h3) ∧ V2.cell? ⟨X4, 2, none⟩ = some (.bool g4) ∧ V2.cell? ⟨X4, 3, none⟩ = some (.int .i64 g5))
    (hsh : ∀ V2, Calls Try.prog 10 #[.int .i64 f] V2 fun e w' => e = .returned (.int .i64 sf) ∧ V2 = w')
    (hrb : ∀ V2, Below V.heap.size V V2 → Calls Try.prog 9 #[.agg #[.slice P2 p2 e2, .slice P3 p3 e3, .bool p4, .int .i64 p5], .slice Ai L ci, .int .i64 sf] V2 (RunPost pb V2))
    (hrc : ∀ V2, Below V.heap.size V V2 → Calls Try.prog 9 #[.agg #[.slice G2 g2 h2, .slice G3 g3 h3, .bool g4, .int .i64 g5], .slice Ai L ci, .int .i64 sf] V2 (RunPost pc V2))
    (hkn : ∀ V2, Below V.heap.size V V2 → Calls Try.prog 8 #[] V2 (BoolBelow true V2)) (u0 u4 u5 u6 u8 u9 u10 u11 u12 u13 u14 u15 u16 u17 u18 u19 u20 u21 u22 u23 u24 u25 u26 u27 u28 u29 u30 u31 u32 u33 u34 u35 u36 u37 u38 u39 u40 u41 u42 u43 u44 u45 u46 u47 u48 u49 u50 u51 u52 u53 u54 u55 u56 u57 u58 u59 u60 u61 u62 u63 u64 u65 u66 u67 u68 u69 u70 u71 u72 u73 : Value) :
    ∀ K : Act → World → Prop, (∀ a w, grT12.wp Try.prog (bodyPost Try.prog Try.f5 (BoolBelow true W)) a w → K a w) → grR11.wp Try.prog (Exit.then K (bodyPost Try.prog Try.f5 (BoolBelow true W))) { tmps := #[u0, .slice Ai L ci, .int .i64 f, .pointer (some ⟨X3, 0, none⟩), u4, u5, u6, .pointer (some ⟨X4, 0, none⟩), u8, u9, u10, u11, u12, u13, u14, u15, u16, u17, u18, u19, u20, u21, u22, u23, u24, u25, u26, u27, u28, u29, u30, u31, u32, u33, u34, u35, u36, u37, u38, u39, u40, u41, u42, u43, u44, u45, u46, u47, u48, u49, u50, u51, u52, u53, u54, u55, u56, u57, u58, u59, u60, u61, u62, u63, u64, u65, u66, u67, u68, u69, u70, u71, u72, u73], defers := [] } V := by
  intro K hK0
  have HK0 := Lib.hid hK0
  clear hK0
  have HEND := Lib.hid (fun (V2 : World) (X7 X8 : Nat) (hv : Below V.heap.size V V2) (he : EndAt V2 X7 pb) (hf : EndAt V2 X8 pc) (y0 y1 y2 y3 y4 y5 y6 y7 y8 y9 y12 y13 y14 y15 y16 y17 y18 y19 y20 y21 y22 y23 y24 y25 y26 y27 y28 y29 y30 y31 y32 y33 y34 y35 y36 y37 y38 y39 y40 y41 y42 y43 y44 y45 y46 y47 y48 y49 y50 y51 y52 y53 y54 y55 y56 y57 y58 y59 y60 y61 y62 y63 y64 y65 y66 y67 y68 y69 y70 y71 y72 y73 : Value) =>
    (show grT12.wp Try.prog (bodyPost Try.prog Try.f5 (BoolBelow true W)) { tmps := #[y0, y1, y2, y3, y4, y5, y6, y7, y8, y9, .pointer (some ⟨X7, 0, none⟩), .pointer (some ⟨X8, 0, none⟩), y12, y13, y14, y15, y16, y17, y18, y19, y20, y21, y22, y23, y24, y25, y26, y27, y28, y29, y30, y31, y32, y33, y34, y35, y36, y37, y38, y39, y40, y41, y42, y43, y44, y45, y46, y47, y48, y49, y50, y51, y52, y53, y54, y55, y56, y57, y58, y59, y60, y61, y62, y63, y64, y65, y66, y67, y68, y69, y70, y71, y72, y73], defers := [] } V2 from
      gr_tail12 (hb.trans (hv.mono hb.size)) he hf hsame (fun V3 h3 => hkn V3 (hv.trans (h3.mono hv.size))) _ _ _ _ _ _ _ _ _ _ _ _ _ _ _ _ _ _ _ _ _ _ _ _ _ _ _ _ _ _ _ _ _ _ _ _ _ _ _ _ _ _ _ _ _ _ _ _ _ _ _ _ _ _ _ _ _ _ _ _ _ _ _ _ _ _ _ _ _ _ _ _))
  have HS := Lib.hid hS
  have HS2 := Lib.hid hS2
  have HSH := Lib.hid hsh
  have HRB := Lib.hid hrb
  have HRC := Lib.hid hrc
  have D0 := Lib.hid (show Below V.heap.size V V.drew from (Below.refl _ _).drew)
  clear hS hrb hrc hb hsh hsame hkn hS2
  unfold grR11 Try.f5
  dsimp only
  refine start_ (n := 14) (S := fun w' => True) (ds := []) #[false, false, false, false, false, false, false, false, false, false, false, false, false, false] (by kernel_rfl) rfl rfl trivial (fun hHeld => ?_)
  clear hHeld
  refine inv_at (B := [0, 0, 0, 4, 15, 0, 0, 0, 159, 511, 0, 0, 4095, 8191]) [0, 1, 2, 3, 4, 5, 6, 7, 8, 9, 10, 11, 12, 13] (fun a0_ b a w' => ∃ A1 c1 A2 c2 X Y, a = putSel a0_ b [(0, 51, .agg #[.slice P2 p2 e2, .slice P3 p3 e3, .bool p4, .int .i64 p5]), (1, 52, .slice Ai L ci), (2, 53, .int .i64 f), (3, 54, .int .i64 sf), (4, 55, .agg #[.int .i64 pb.kind, .int .i64 pb.n, .slice A1 pb.out.length c1, .int .i64 pb.steps]), (5, 56, .agg #[.slice G2 g2 h2, .slice G3 g3 h3, .bool g4, .int .i64 g5]), (6, 57, .slice Ai L ci), (7, 58, .int .i64 f), (8, 59, .int .i64 sf), (9, 60, .agg #[.int .i64 pc.kind, .int .i64 pc.n, .slice A2 pc.out.length c2, .int .i64 pc.steps]), (10, 10, .pointer (some ⟨X, 0, none⟩)), (11, 11, .pointer (some ⟨Y, 0, none⟩))] ∧ Reg V [(b 4), (b 9), (b 10 && !b 12), (b 11 && !b 13), (b 12), (b 13)] [intsFa A1 pb.out, intsFa A2 pc.out, blkFa X zeroC, blkFa Y zeroC, blkFa X (endC pb A1 c1), blkFa Y (endC pc A2 c2)] w') rfl (by kernel_rfl) (by kernel_rfl) (by kernel_rfl) ?_ ?_ ?_
  · exact ⟨none, 0, none, 0, 0, 0, by simp only [putSel, Bool.false_eq_true, if_false], Reg.start D0.out (fun i => by match i with | 0 => rfl | 1 => rfl | 2 => rfl | 3 => rfl | 4 => rfl | 5 => rfl | i + 6 => simp)⟩
  · skip
    refine steps_cons ?_ ?_
    · rintro b a w' ⟨A1, c1, A2, c2, X, Y, ha, hI⟩ hb_ hon hoff
      refine ⟨_, rfl, fun K hK => ?_⟩
      have m3 : a.tmps[3]? = some (.pointer (some ⟨X3, 0, none⟩)) := by rw [ha]; exact (putSel_off rfl).trans rfl
      obtain ⟨z0, z1, z2, z3⟩ := HS.out w' hI.bel
      replace ha := Lib.hid ha
      have HI := Lib.hid hI
      clear hI
      refine value_ (w1 := w') (v := .agg #[.slice P2 p2 e2, .slice P3 p3 e3, .bool p4, .int .i64 p5]) (by rfl) rfl ?_ ?_
      · go_simp
        try rfl
      exact hK.out _ _ ⟨A1, c1, A2, c2, X, Y, (by rw [ha.out]; exact putSel_upk 0 hb_ rfl rfl rfl), (by have h := HI.out; have eb4 : up b 0 4 = b 4 := up_ne (by decide); have eb9 : up b 0 9 = b 9 := up_ne (by decide); have eb10 : up b 0 10 = b 10 := up_ne (by decide); have eb11 : up b 0 11 = b 11 := up_ne (by decide); have eb12 : up b 0 12 = b 12 := up_ne (by decide); have eb13 : up b 0 13 = b 13 := up_ne (by decide); rw [eb4, eb9, eb10, eb11, eb12, eb13]; exact h)⟩
    refine steps_cons ?_ ?_
    · rintro b a w' ⟨A1, c1, A2, c2, X, Y, ha, hI⟩ hb_ hon hoff
      refine ⟨_, rfl, fun K hK => ?_⟩
      have m1 : a.tmps[1]? = some (.slice Ai L ci) := by rw [ha]; exact (putSel_off rfl).trans rfl
      replace ha := Lib.hid ha
      have HI := Lib.hid hI
      clear hI
      refine value_ (w1 := w') (v := .slice Ai L ci) (by rfl) rfl ?_ ?_
      · go_simp
        try rfl
      exact hK.out _ _ ⟨A1, c1, A2, c2, X, Y, (by rw [ha.out]; exact putSel_upk 1 hb_ rfl rfl rfl), (by have h := HI.out; have eb4 : up b 1 4 = b 4 := up_ne (by decide); have eb9 : up b 1 9 = b 9 := up_ne (by decide); have eb10 : up b 1 10 = b 10 := up_ne (by decide); have eb11 : up b 1 11 = b 11 := up_ne (by decide); have eb12 : up b 1 12 = b 12 := up_ne (by decide); have eb13 : up b 1 13 = b 13 := up_ne (by decide); rw [eb4, eb9, eb10, eb11, eb12, eb13]; exact h)⟩
    refine steps_cons ?_ ?_
    · rintro b a w' ⟨A1, c1, A2, c2, X, Y, ha, hI⟩ hb_ hon hoff
      refine ⟨_, rfl, fun K hK => ?_⟩
      have m2 : a.tmps[2]? = some (.int .i64 f) := by rw [ha]; exact (putSel_off rfl).trans rfl
      replace ha := Lib.hid ha
      have HI := Lib.hid hI
      clear hI
      refine value_ (w1 := w') (v := .int .i64 f) (by rfl) rfl ?_ ?_
      · go_simp
        try rfl
      exact hK.out _ _ ⟨A1, c1, A2, c2, X, Y, (by rw [ha.out]; exact putSel_upk 2 hb_ rfl rfl rfl), (by have h := HI.out; have eb4 : up b 2 4 = b 4 := up_ne (by decide); have eb9 : up b 2 9 = b 9 := up_ne (by decide); have eb10 : up b 2 10 = b 10 := up_ne (by decide); have eb11 : up b 2 11 = b 11 := up_ne (by decide); have eb12 : up b 2 12 = b 12 := up_ne (by decide); have eb13 : up b 2 13 = b 13 := up_ne (by decide); rw [eb4, eb9, eb10, eb11, eb12, eb13]; exact h)⟩
    refine steps_cons ?_ ?_
    · rintro b a w' ⟨A1, c1, A2, c2, X, Y, ha, hI⟩ hb_ hon hoff
      refine ⟨_, rfl, fun K hK => ?_⟩
      have tq2 : a.tmps[53]? = some (.int .i64 f) := by rw [ha]; exact putSel_on (e := (2, 53, .int .i64 f)) 2 rfl rfl (hon 2 (by kernel_rfl)) rfl
      replace ha := Lib.hid ha
      have HI := Lib.hid hI
      clear hI
      refine goes_ Try.func10 (by kernel_rfl) rfl #[.int .i64 f] (by rfl) rfl rfl (by first | (simp only [List.map_toArray, List.map_cons, List.map_nil, Act.eval, Array.getD_eq_getD_getElem?, Option.getD_some, tq2]; done) | (simp only [List.map_toArray, List.map_cons, List.map_nil, Act.eval, Array.getD_eq_getD_getElem?, Option.getD_some, tq2]; rfl)) ?_
      refine (HSH.out w').mono ?_
      rintro e w2 ⟨rfl, rfl⟩
      exact ⟨_, rfl, hK.out _ _ ⟨A1, c1, A2, c2, X, Y, (by rw [ha.out]; exact putSel_upk 3 hb_ rfl rfl rfl), (by have h := HI.out; have eb4 : up b 3 4 = b 4 := up_ne (by decide); have eb9 : up b 3 9 = b 9 := up_ne (by decide); have eb10 : up b 3 10 = b 10 := up_ne (by decide); have eb11 : up b 3 11 = b 11 := up_ne (by decide); have eb12 : up b 3 12 = b 12 := up_ne (by decide); have eb13 : up b 3 13 = b 13 := up_ne (by decide); rw [eb4, eb9, eb10, eb11, eb12, eb13]; exact h)⟩⟩
    refine steps_cons ?_ ?_
    · rintro b a w' ⟨A1, c1, A2, c2, X, Y, ha, hI⟩ hb_ hon hoff
      refine ⟨_, rfl, fun K hK => ?_⟩
      have tq0 : a.tmps[51]? = some (.agg #[.slice P2 p2 e2, .slice P3 p3 e3, .bool p4, .int .i64 p5]) := by rw [ha]; exact putSel_on (e := (0, 51, .agg #[.slice P2 p2 e2, .slice P3 p3 e3, .bool p4, .int .i64 p5])) 0 rfl rfl (hon 0 (by kernel_rfl)) rfl
      have tq1 : a.tmps[52]? = some (.slice Ai L ci) := by rw [ha]; exact putSel_on (e := (1, 52, .slice Ai L ci)) 1 rfl rfl (hon 1 (by kernel_rfl)) rfl
      have tq3 : a.tmps[54]? = some (.int .i64 sf) := by rw [ha]; exact putSel_on (e := (3, 54, .int .i64 sf)) 3 rfl rfl (hon 3 (by kernel_rfl)) rfl
      replace ha := Lib.hid ha
      have HI := Lib.hid hI
      clear hI
      refine goes_ Try.func9 (by kernel_rfl) rfl #[.agg #[.slice P2 p2 e2, .slice P3 p3 e3, .bool p4, .int .i64 p5], .slice Ai L ci, .int .i64 sf] (by rfl) rfl rfl (by first | (simp only [List.map_toArray, List.map_cons, List.map_nil, Act.eval, Array.getD_eq_getD_getElem?, Option.getD_some, tq0, tq1, tq3]; done) | (simp only [List.map_toArray, List.map_cons, List.map_nil, Act.eval, Array.getD_eq_getD_getElem?, Option.getD_some, tq0, tq1, tq3]; rfl)) ?_
      refine (HRB.out w' HI.out.bel).mono ?_
      rintro e w2 ⟨v, A_, c_, rfl, rfl, hE, hb2, hlo⟩
      obtain ⟨A', c', heq, hi⟩ := hE
      simp only [Value.agg.injEq, Array.mk.injEq, List.cons.injEq, Value.slice.injEq, true_and, and_true] at heq
      obtain ⟨rfl, rfl⟩ := heq
      exact ⟨_, rfl, hK.out _ _ ⟨A_, c_, A2, c2, X, Y, (by rw [ha.out]; exact putSel_upk 4 hb_ rfl rfl rfl), HI.out.ints 0 hb2 rfl hi hlo (by intro j hj hc; have eb9 : up b 4 9 = b 9 := up_ne (by decide); have eb10 : up b 4 10 = b 10 := up_ne (by decide); have eb11 : up b 4 11 = b 11 := up_ne (by decide); have eb12 : up b 4 12 = b 12 := up_ne (by decide); have eb13 : up b 4 13 = b 13 := up_ne (by decide); have eb4 : up b 4 4 = true := up_self _ _; match j, hj, hc with | 0, hj, hc => exact absurd rfl hj | 1, hj, hc => (change (up b 4 9) = true at hc; rw [eb9, hoff 9 (by kernel_rfl)] at hc; simp at hc) | 2, hj, hc => (change (up b 4 10 && !up b 4 12) = true at hc; rw [eb10, eb12] at hc; exact ⟨hc, rfl⟩) | 3, hj, hc => (change (up b 4 11 && !up b 4 13) = true at hc; rw [eb11, eb13] at hc; exact ⟨hc, rfl⟩) | 4, hj, hc => (change (up b 4 12) = true at hc; rw [eb12, hoff 12 (by kernel_rfl)] at hc; simp at hc) | 5, hj, hc => (change (up b 4 13) = true at hc; rw [eb13, hoff 13 (by kernel_rfl)] at hc; simp at hc) | j + 6, hj, hc => simp at hc)⟩⟩
    refine steps_cons ?_ ?_
    · rintro b a w' ⟨A1, c1, A2, c2, X, Y, ha, hI⟩ hb_ hon hoff
      refine ⟨_, rfl, fun K hK => ?_⟩
      have m3 : a.tmps[7]? = some (.pointer (some ⟨X4, 0, none⟩)) := by rw [ha]; exact (putSel_off rfl).trans rfl
      obtain ⟨z0, z1, z2, z3⟩ := HS2.out w' hI.bel
      replace ha := Lib.hid ha
      have HI := Lib.hid hI
      clear hI
      refine value_ (w1 := w') (v := .agg #[.slice G2 g2 h2, .slice G3 g3 h3, .bool g4, .int .i64 g5]) (by rfl) rfl ?_ ?_
      · go_simp
        try rfl
      exact hK.out _ _ ⟨A1, c1, A2, c2, X, Y, (by rw [ha.out]; exact putSel_upk 5 hb_ rfl rfl rfl), (by have h := HI.out; have eb4 : up b 5 4 = b 4 := up_ne (by decide); have eb9 : up b 5 9 = b 9 := up_ne (by decide); have eb10 : up b 5 10 = b 10 := up_ne (by decide); have eb11 : up b 5 11 = b 11 := up_ne (by decide); have eb12 : up b 5 12 = b 12 := up_ne (by decide); have eb13 : up b 5 13 = b 13 := up_ne (by decide); rw [eb4, eb9, eb10, eb11, eb12, eb13]; exact h)⟩
    refine steps_cons ?_ ?_
    · rintro b a w' ⟨A1, c1, A2, c2, X, Y, ha, hI⟩ hb_ hon hoff
      refine ⟨_, rfl, fun K hK => ?_⟩
      have m1 : a.tmps[1]? = some (.slice Ai L ci) := by rw [ha]; exact (putSel_off rfl).trans rfl
      replace ha := Lib.hid ha
      have HI := Lib.hid hI
      clear hI
      refine value_ (w1 := w') (v := .slice Ai L ci) (by rfl) rfl ?_ ?_
      · go_simp
        try rfl
      exact hK.out _ _ ⟨A1, c1, A2, c2, X, Y, (by rw [ha.out]; exact putSel_upk 6 hb_ rfl rfl rfl), (by have h := HI.out; have eb4 : up b 6 4 = b 4 := up_ne (by decide); have eb9 : up b 6 9 = b 9 := up_ne (by decide); have eb10 : up b 6 10 = b 10 := up_ne (by decide); have eb11 : up b 6 11 = b 11 := up_ne (by decide); have eb12 : up b 6 12 = b 12 := up_ne (by decide); have eb13 : up b 6 13 = b 13 := up_ne (by decide); rw [eb4, eb9, eb10, eb11, eb12, eb13]; exact h)⟩
    refine steps_cons ?_ ?_
    · rintro b a w' ⟨A1, c1, A2, c2, X, Y, ha, hI⟩ hb_ hon hoff
      refine ⟨_, rfl, fun K hK => ?_⟩
      have m2 : a.tmps[2]? = some (.int .i64 f) := by rw [ha]; exact (putSel_off rfl).trans rfl
      replace ha := Lib.hid ha
      have HI := Lib.hid hI
      clear hI
      refine value_ (w1 := w') (v := .int .i64 f) (by rfl) rfl ?_ ?_
      · go_simp
        try rfl
      exact hK.out _ _ ⟨A1, c1, A2, c2, X, Y, (by rw [ha.out]; exact putSel_upk 7 hb_ rfl rfl rfl), (by have h := HI.out; have eb4 : up b 7 4 = b 4 := up_ne (by decide); have eb9 : up b 7 9 = b 9 := up_ne (by decide); have eb10 : up b 7 10 = b 10 := up_ne (by decide); have eb11 : up b 7 11 = b 11 := up_ne (by decide); have eb12 : up b 7 12 = b 12 := up_ne (by decide); have eb13 : up b 7 13 = b 13 := up_ne (by decide); rw [eb4, eb9, eb10, eb11, eb12, eb13]; exact h)⟩
    refine steps_cons ?_ ?_
    · rintro b a w' ⟨A1, c1, A2, c2, X, Y, ha, hI⟩ hb_ hon hoff
      refine ⟨_, rfl, fun K hK => ?_⟩
      have tq2 : a.tmps[58]? = some (.int .i64 f) := by rw [ha]; exact putSel_on (e := (7, 58, .int .i64 f)) 7 rfl rfl (hon 7 (by kernel_rfl)) rfl
      replace ha := Lib.hid ha
      have HI := Lib.hid hI
      clear hI
      refine goes_ Try.func10 (by kernel_rfl) rfl #[.int .i64 f] (by rfl) rfl rfl (by first | (simp only [List.map_toArray, List.map_cons, List.map_nil, Act.eval, Array.getD_eq_getD_getElem?, Option.getD_some, tq2]; done) | (simp only [List.map_toArray, List.map_cons, List.map_nil, Act.eval, Array.getD_eq_getD_getElem?, Option.getD_some, tq2]; rfl)) ?_
      refine (HSH.out w').mono ?_
      rintro e w2 ⟨rfl, rfl⟩
      exact ⟨_, rfl, hK.out _ _ ⟨A1, c1, A2, c2, X, Y, (by rw [ha.out]; exact putSel_upk 8 hb_ rfl rfl rfl), (by have h := HI.out; have eb4 : up b 8 4 = b 4 := up_ne (by decide); have eb9 : up b 8 9 = b 9 := up_ne (by decide); have eb10 : up b 8 10 = b 10 := up_ne (by decide); have eb11 : up b 8 11 = b 11 := up_ne (by decide); have eb12 : up b 8 12 = b 12 := up_ne (by decide); have eb13 : up b 8 13 = b 13 := up_ne (by decide); rw [eb4, eb9, eb10, eb11, eb12, eb13]; exact h)⟩⟩
    refine steps_cons ?_ ?_
    · rintro b a w' ⟨A1, c1, A2, c2, X, Y, ha, hI⟩ hb_ hon hoff
      refine ⟨_, rfl, fun K hK => ?_⟩
      have tq0 : a.tmps[56]? = some (.agg #[.slice G2 g2 h2, .slice G3 g3 h3, .bool g4, .int .i64 g5]) := by rw [ha]; exact putSel_on (e := (5, 56, .agg #[.slice G2 g2 h2, .slice G3 g3 h3, .bool g4, .int .i64 g5])) 5 rfl rfl (hon 5 (by kernel_rfl)) rfl
      have tq1 : a.tmps[57]? = some (.slice Ai L ci) := by rw [ha]; exact putSel_on (e := (6, 57, .slice Ai L ci)) 6 rfl rfl (hon 6 (by kernel_rfl)) rfl
      have tq3 : a.tmps[59]? = some (.int .i64 sf) := by rw [ha]; exact putSel_on (e := (8, 59, .int .i64 sf)) 8 rfl rfl (hon 8 (by kernel_rfl)) rfl
      replace ha := Lib.hid ha
      have HI := Lib.hid hI
      clear hI
      refine goes_ Try.func9 (by kernel_rfl) rfl #[.agg #[.slice G2 g2 h2, .slice G3 g3 h3, .bool g4, .int .i64 g5], .slice Ai L ci, .int .i64 sf] (by rfl) rfl rfl (by first | (simp only [List.map_toArray, List.map_cons, List.map_nil, Act.eval, Array.getD_eq_getD_getElem?, Option.getD_some, tq0, tq1, tq3]; done) | (simp only [List.map_toArray, List.map_cons, List.map_nil, Act.eval, Array.getD_eq_getD_getElem?, Option.getD_some, tq0, tq1, tq3]; rfl)) ?_
      refine (HRC.out w' HI.out.bel).mono ?_
      rintro e w2 ⟨v, A_, c_, rfl, rfl, hE, hb2, hlo⟩
      obtain ⟨A', c', heq, hi⟩ := hE
      simp only [Value.agg.injEq, Array.mk.injEq, List.cons.injEq, Value.slice.injEq, true_and, and_true] at heq
      obtain ⟨rfl, rfl⟩ := heq
      exact ⟨_, rfl, hK.out _ _ ⟨A1, c1, A_, c_, X, Y, (by rw [ha.out]; exact putSel_upk 9 hb_ rfl rfl rfl), HI.out.ints 1 hb2 rfl hi hlo (by intro j hj hc; have eb4 : up b 9 4 = b 4 := up_ne (by decide); have eb10 : up b 9 10 = b 10 := up_ne (by decide); have eb11 : up b 9 11 = b 11 := up_ne (by decide); have eb12 : up b 9 12 = b 12 := up_ne (by decide); have eb13 : up b 9 13 = b 13 := up_ne (by decide); have eb9 : up b 9 9 = true := up_self _ _; match j, hj, hc with | 0, hj, hc => (change (up b 9 4) = true at hc; rw [eb4] at hc; exact ⟨hc, rfl⟩) | 1, hj, hc => exact absurd rfl hj | 2, hj, hc => (change (up b 9 10 && !up b 9 12) = true at hc; rw [eb10, eb12] at hc; exact ⟨hc, rfl⟩) | 3, hj, hc => (change (up b 9 11 && !up b 9 13) = true at hc; rw [eb11, eb13] at hc; exact ⟨hc, rfl⟩) | 4, hj, hc => (change (up b 9 12) = true at hc; rw [eb12, hoff 12 (by kernel_rfl)] at hc; simp at hc) | 5, hj, hc => (change (up b 9 13) = true at hc; rw [eb13, hoff 13 (by kernel_rfl)] at hc; simp at hc) | j + 6, hj, hc => simp at hc)⟩⟩
    refine steps_cons ?_ ?_
    · rintro b a w' ⟨A1, c1, A2, c2, X, Y, ha, hI⟩ hb_ hon hoff
      refine ⟨_, rfl, fun K hK => ?_⟩
      replace ha := Lib.hid ha
      have HI := Lib.hid hI
      clear hI
      refine value_ (w1 := w'.alloc (.cells #[.int .i64 0, .int .i64 0, .slice none 0 0, .int .i64 0] 35)) (v := .pointer (some ⟨w'.heap.size, 0, none⟩)) (by rfl) rfl ?_ ?_
      · go_simp
        try rfl
      exact hK.out _ _ ⟨A1, c1, A2, c2, w'.heap.size, Y, (by rw [ha.out]; exact putSel_upk 10 hb_ rfl rfl rfl), HI.out.new 2 rfl (by intro j hj hc; have eb4 : up b 10 4 = b 4 := up_ne (by decide); have eb9 : up b 10 9 = b 9 := up_ne (by decide); have eb11 : up b 10 11 = b 11 := up_ne (by decide); have eb12 : up b 10 12 = b 12 := up_ne (by decide); have eb13 : up b 10 13 = b 13 := up_ne (by decide); have eb10 : up b 10 10 = true := up_self _ _; match j, hj, hc with | 0, hj, hc => (change (up b 10 4) = true at hc; rw [eb4] at hc; exact ⟨hc, rfl⟩) | 1, hj, hc => (change (up b 10 9) = true at hc; rw [eb9] at hc; exact ⟨hc, rfl⟩) | 2, hj, hc => exact absurd rfl hj | 3, hj, hc => (change (up b 10 11 && !up b 10 13) = true at hc; rw [eb11, eb13] at hc; exact ⟨hc, rfl⟩) | 4, hj, hc => (change (up b 10 12) = true at hc; rw [eb12, hoff 12 (by kernel_rfl)] at hc; simp at hc) | 5, hj, hc => (change (up b 10 13) = true at hc; rw [eb13, hoff 13 (by kernel_rfl)] at hc; simp at hc) | j + 6, hj, hc => simp at hc)⟩
    refine steps_cons ?_ ?_
    · rintro b a w' ⟨A1, c1, A2, c2, X, Y, ha, hI⟩ hb_ hon hoff
      refine ⟨_, rfl, fun K hK => ?_⟩
      replace ha := Lib.hid ha
      have HI := Lib.hid hI
      clear hI
      refine value_ (w1 := w'.alloc (.cells #[.int .i64 0, .int .i64 0, .slice none 0 0, .int .i64 0] 35)) (v := .pointer (some ⟨w'.heap.size, 0, none⟩)) (by rfl) rfl ?_ ?_
      · go_simp
        try rfl
      exact hK.out _ _ ⟨A1, c1, A2, c2, X, w'.heap.size, (by rw [ha.out]; exact putSel_upk 11 hb_ rfl rfl rfl), HI.out.new 3 rfl (by intro j hj hc; have eb4 : up b 11 4 = b 4 := up_ne (by decide); have eb9 : up b 11 9 = b 9 := up_ne (by decide); have eb10 : up b 11 10 = b 10 := up_ne (by decide); have eb12 : up b 11 12 = b 12 := up_ne (by decide); have eb13 : up b 11 13 = b 13 := up_ne (by decide); have eb11 : up b 11 11 = true := up_self _ _; match j, hj, hc with | 0, hj, hc => (change (up b 11 4) = true at hc; rw [eb4] at hc; exact ⟨hc, rfl⟩) | 1, hj, hc => (change (up b 11 9) = true at hc; rw [eb9] at hc; exact ⟨hc, rfl⟩) | 2, hj, hc => (change (up b 11 10 && !up b 11 12) = true at hc; rw [eb10, eb12] at hc; exact ⟨hc, rfl⟩) | 3, hj, hc => exact absurd rfl hj | 4, hj, hc => (change (up b 11 12) = true at hc; rw [eb12, hoff 12 (by kernel_rfl)] at hc; simp at hc) | 5, hj, hc => (change (up b 11 13) = true at hc; rw [eb13, hoff 13 (by kernel_rfl)] at hc; simp at hc) | j + 6, hj, hc => simp at hc)⟩
    refine steps_cons ?_ ?_
    · rintro b a w' ⟨A1, c1, A2, c2, X, Y, ha, hI⟩ hb_ hon hoff
      refine ⟨_, rfl, fun K hK => ?_⟩
      have tq4 : a.tmps[55]? = some (.agg #[.int .i64 pb.kind, .int .i64 pb.n, .slice A1 pb.out.length c1, .int .i64 pb.steps]) := by rw [ha]; exact putSel_on (e := (4, 55, .agg #[.int .i64 pb.kind, .int .i64 pb.n, .slice A1 pb.out.length c1, .int .i64 pb.steps])) 4 rfl rfl (hon 4 (by kernel_rfl)) rfl
      have tq7 : a.tmps[10]? = some (.pointer (some ⟨X, 0, none⟩)) := by rw [ha]; exact putSel_on (e := (10, 10, .pointer (some ⟨X, 0, none⟩))) 10 rfl rfl (hon 10 (by kernel_rfl)) rfl
      obtain ⟨y0, y1, y2, y3, y4⟩ := zeroC_cells ((hI.hold 2 (by show (b 10 && !b 12) = true; rw [hon 10 (by kernel_rfl), hb_]; try rfl)).1)
      replace ha := Lib.hid ha
      have HI := Lib.hid hI
      clear hI
      refine skip_ (w1 := setE w' X pb A1 c1) (by rfl) rfl ?_ ?_
      · unfold setE
        go_simp
        try rfl
      exact hK.out _ _ ⟨A1, c1, A2, c2, X, Y, (by rw [ha.out]; exact (putSel_skipY rfl).symm), HI.out.turn 2 4 (by show (b 10 && !b 12) = true; rw [hon 10 (by kernel_rfl), hb_]; try rfl) rfl (chg_setE _ _ _ _ _) rfl (setE_self (HI.out.hold 2 (by show (b 10 && !b 12) = true; rw [hon 10 (by kernel_rfl), hb_]; try rfl)).1 _ _ _) (by intro j hj hc; have eb4 : up b 12 4 = b 4 := up_ne (by decide); have eb9 : up b 12 9 = b 9 := up_ne (by decide); have eb10 : up b 12 10 = b 10 := up_ne (by decide); have eb11 : up b 12 11 = b 11 := up_ne (by decide); have eb13 : up b 12 13 = b 13 := up_ne (by decide); have eb12 : up b 12 12 = true := up_self _ _; match j, hj, hc with | 0, hj, hc => (change (up b 12 4) = true at hc; rw [eb4] at hc; exact ⟨hc, rfl, by decide⟩) | 1, hj, hc => (change (up b 12 9) = true at hc; rw [eb9] at hc; exact ⟨hc, rfl, by decide⟩) | 2, hj, hc => (change (up b 12 10 && !up b 12 12) = true at hc; rw [eb10, eb12] at hc; simp at hc) | 3, hj, hc => (change (up b 12 11 && !up b 12 13) = true at hc; rw [eb11, eb13] at hc; exact ⟨hc, rfl, by decide⟩) | 4, hj, hc => exact absurd rfl hj | 5, hj, hc => (change (up b 12 13) = true at hc; rw [eb13, hoff 13 (by kernel_rfl)] at hc; simp at hc) | j + 6, hj, hc => simp at hc)⟩
    refine steps_cons ?_ ?_
    · rintro b a w' ⟨A1, c1, A2, c2, X, Y, ha, hI⟩ hb_ hon hoff
      refine ⟨_, rfl, fun K hK => ?_⟩
      have tq9 : a.tmps[60]? = some (.agg #[.int .i64 pc.kind, .int .i64 pc.n, .slice A2 pc.out.length c2, .int .i64 pc.steps]) := by rw [ha]; exact putSel_on (e := (9, 60, .agg #[.int .i64 pc.kind, .int .i64 pc.n, .slice A2 pc.out.length c2, .int .i64 pc.steps])) 9 rfl rfl (hon 9 (by kernel_rfl)) rfl
      have tq8 : a.tmps[11]? = some (.pointer (some ⟨Y, 0, none⟩)) := by rw [ha]; exact putSel_on (e := (11, 11, .pointer (some ⟨Y, 0, none⟩))) 11 rfl rfl (hon 11 (by kernel_rfl)) rfl
      obtain ⟨y0, y1, y2, y3, y4⟩ := zeroC_cells ((hI.hold 3 (by show (b 11 && !b 13) = true; rw [hon 11 (by kernel_rfl), hb_]; try rfl)).1)
      replace ha := Lib.hid ha
      have HI := Lib.hid hI
      clear hI
      refine skip_ (w1 := setE w' Y pc A2 c2) (by rfl) rfl ?_ ?_
      · unfold setE
        go_simp
        try rfl
      exact hK.out _ _ ⟨A1, c1, A2, c2, X, Y, (by rw [ha.out]; exact (putSel_skipY rfl).symm), HI.out.turn 3 5 (by show (b 11 && !b 13) = true; rw [hon 11 (by kernel_rfl), hb_]; try rfl) rfl (chg_setE _ _ _ _ _) rfl (setE_self (HI.out.hold 3 (by show (b 11 && !b 13) = true; rw [hon 11 (by kernel_rfl), hb_]; try rfl)).1 _ _ _) (by intro j hj hc; have eb4 : up b 13 4 = b 4 := up_ne (by decide); have eb9 : up b 13 9 = b 9 := up_ne (by decide); have eb10 : up b 13 10 = b 10 := up_ne (by decide); have eb11 : up b 13 11 = b 11 := up_ne (by decide); have eb12 : up b 13 12 = b 12 := up_ne (by decide); have eb13 : up b 13 13 = true := up_self _ _; match j, hj, hc with | 0, hj, hc => (change (up b 13 4) = true at hc; rw [eb4] at hc; exact ⟨hc, rfl, by decide⟩) | 1, hj, hc => (change (up b 13 9) = true at hc; rw [eb9] at hc; exact ⟨hc, rfl, by decide⟩) | 2, hj, hc => (change (up b 13 10 && !up b 13 12) = true at hc; rw [eb10, eb12] at hc; exact ⟨hc, rfl, by decide⟩) | 3, hj, hc => (change (up b 13 11 && !up b 13 13) = true at hc; rw [eb11, eb13] at hc; simp at hc) | 4, hj, hc => (change (up b 13 12) = true at hc; rw [eb12] at hc; exact ⟨hc, rfl, by decide⟩) | 5, hj, hc => exact absurd rfl hj | j + 6, hj, hc => simp at hc)⟩
    exact steps_nil
  rintro b a w' hall ⟨A1, c1, A2, c2, X, Y, ha, hI⟩
  have hl : ∀ j, j ≤ 13 → b j = true := fun j hj => hall j (by
    have : j = 0 ∨ j = 1 ∨ j = 2 ∨ j = 3 ∨ j = 4 ∨ j = 5 ∨ j = 6 ∨ j = 7 ∨ j = 8 ∨ j = 9 ∨ j = 10 ∨ j = 11 ∨ j = 12 ∨ j = 13 := by omega
    rcases this with rfl | rfl | rfl | rfl | rfl | rfl | rfl | rfl | rfl | rfl | rfl | rfl | rfl | rfl <;> rfl)
  have b0 := hl 0 (by decide)
  have b1 := hl 1 (by decide)
  have b2 := hl 2 (by decide)
  have b3 := hl 3 (by decide)
  have b4 := hl 4 (by decide)
  have b5 := hl 5 (by decide)
  have b6 := hl 6 (by decide)
  have b7 := hl 7 (by decide)
  have b8 := hl 8 (by decide)
  have b9 := hl 9 (by decide)
  have b10 := hl 10 (by decide)
  have b11 := hl 11 (by decide)
  have b12 := hl 12 (by decide)
  have b13 := hl 13 (by decide)
  have f0 := (hI.hold 0 (by show (b 4) = true; rw [b4]; try rfl)).1
  have f1 := (hI.hold 1 (by show (b 9) = true; rw [b9]; try rfl)).1
  have f4 := (hI.hold 4 (by show (b 12) = true; rw [b12]; try rfl)).1
  have f5 := (hI.hold 5 (by show (b 13) = true; rw [b13]; try rfl)).1
  have hbel := hI.bel
  clear hI
  subst ha
  simp only [putSel, b0, b1, b2, b3, b4, b5, b6, b7, b8, b9, b10, b11, if_true, Act.put, List.setIfInBounds_toArray, List.set_cons_zero, List.set_cons_succ, Exit.then]
  exact HK0.out _ _ (HEND.out _ X Y hbel ⟨A1, c1, f4, f0⟩ ⟨A2, c2, f5, f1⟩ _ _ _ _ _ _ _ _ _ _ _ _ _ _ _ _ _ _ _ _ _ _ _ _ _ _ _ _ _ _ _ _ _ _ _ _ _ _ _ _ _ _ _ _ _ _ _ _ _ _ _ _ _ _ _ _ _ _ _ _ _ _ _ _ _ _ _ _ _ _ _ _)
set_option maxRecDepth 100000 in
set_option maxHeartbeats 16000000 in
theorem gr_tail9 {W V : World} (hb : Below W.heap.size W V) {X3 X7 L ci nf cf ng c9 n1 d1 n8 d8 : Nat} {Ai Af A1 A9 A8 : Option Addr} {b1 b8 : Bool} {k1 k8 f : Int} {p g : FlatP} {inp : List Int} (hL : inp.length = L)
    (hS : ∀ V2, Below V.heap.size V V2 → V2.cell? ⟨X3, 0, none⟩ = some (.slice Af nf cf) ∧ V2.cell? ⟨X3, 1, none⟩ = some (.slice A1 n1 d1) ∧ V2.cell? ⟨X3, 2, none⟩ = some (.bool b1) ∧ V2.cell? ⟨X3, 3, none⟩ = some (.int .i64 k1)) (hS9 : ∀ V2, Below V.heap.size V V2 → V2.cell? ⟨X7, 0, none⟩ = some (.slice A9 ng c9) ∧ V2.cell? ⟨X7, 1, none⟩ = some (.slice A8 n8 d8) ∧ V2.cell? ⟨X7, 2, none⟩ = some (.bool b8) ∧ V2.cell? ⟨X7, 3, none⟩ = some (.int .i64 k8))
    (hp : FlatIn V.heap.size V p #[.slice Af nf cf, .slice A1 n1 d1, .bool b1, .int .i64 k1]) (hg : FlatIn V.heap.size V g #[.slice A9 ng c9, .slice A8 n8 d8, .bool b8, .int .i64 k8]) (hi : IntsIn V.heap.size V Ai inp) (hci : inp.length ≤ ci)
    (sm1 : SmallF p) (sm2 : SmallF g) (hlaw : r30 g = 0 → sameE (runE p inp (min f 1500)) (runE g inp (min f 1500)) = true ∧ (runE p inp (min f 1500)).steps = (runE g inp (min f 1500)).steps) (u0 u4 u5 u6 u8 u9 u10 u11 u12 u13 u14 u15 u16 u17 u18 u19 u20 u21 u22 u23 u24 u25 u26 u27 u28 u29 u30 u31 u32 u33 u34 u35 u36 u37 u38 u39 u40 u41 u42 u43 u44 u45 u46 u47 u48 u49 u50 u51 u52 u53 u54 u55 u56 u57 u58 u59 u60 u61 u62 u63 u64 u65 u66 u67 u68 u69 u70 u71 u72 u73 : Value) :
    grT9.wp Try.prog (bodyPost Try.prog Try.f5 (BoolBelow true W)) { tmps := #[u0, .slice Ai L ci, .int .i64 f, .pointer (some ⟨X3, 0, none⟩), u4, u5, u6, .pointer (some ⟨X7, 0, none⟩), u8, u9, u10, u11, u12, u13, u14, u15, u16, u17, u18, u19, u20, u21, u22, u23, u24, u25, u26, u27, u28, u29, u30, u31, u32, u33, u34, u35, u36, u37, u38, u39, u40, u41, u42, u43, u44, u45, u46, u47, u48, u49, u50, u51, u52, u53, u54, u55, u56, u57, u58, u59, u60, u61, u62, u63, u64, u65, u66, u67, u68, u69, u70, u71, u72, u73], defers := [] } V := by
  have HB := Lib.hid hb
  have HS := Lib.hid hS
  have HS9 := Lib.hid hS9
  obtain ⟨z4, z5, z6, z7⟩ := hS9 V (Below.refl _ _)
  have HR2 := Lib.hid (rright_any sm2 V hg (Nat.le_refl _))
  by_cases h2 : r30 g = 0
  · rw [h2] at HR2
    have HGO := Lib.hid (fun (V2 : World) (h : Below V.heap.size V V2) (y0 y4 y5 y6 y8 y9 y10 y11 y12 y13 y14 y15 y16 y17 y18 y19 y20 y21 y22 y23 y24 y25 y26 y27 y28 y29 y30 y31 y32 y33 y34 y35 y36 y37 y38 y39 y40 y41 y42 y43 y44 y45 y46 y47 y48 y49 y50 y51 y52 y53 y54 y55 y56 y57 y58 y59 y60 y61 y62 y63 y64 y65 y66 y67 y68 y69 y70 y71 y72 y73 : Value) =>
      (show ∀ K : Act → World → Prop, (∀ a w, grT12.wp Try.prog (bodyPost Try.prog Try.f5 (BoolBelow true W)) a w → K a w) → grR11.wp Try.prog (Exit.then K (bodyPost Try.prog Try.f5 (BoolBelow true W))) { tmps := #[y0, .slice Ai L ci, .int .i64 f, .pointer (some ⟨X3, 0, none⟩), y4, y5, y6, .pointer (some ⟨X7, 0, none⟩), y8, y9, y10, y11, y12, y13, y14, y15, y16, y17, y18, y19, y20, y21, y22, y23, y24, y25, y26, y27, y28, y29, y30, y31, y32, y33, y34, y35, y36, y37, y38, y39, y40, y41, y42, y43, y44, y45, y46, y47, y48, y49, y50, y51, y52, y53, y54, y55, y56, y57, y58, y59, y60, y61, y62, y63, y64, y65, y66, y67, y68, y69, y70, y71, y72, y73], defers := [] } V2 from
        gr_runs11 (sf := min f 1500) (hb.trans (h.mono hb.size)) (hlaw h2) (fun V3 h3 => hS V3 (h.trans (h3.mono h.size))) (fun V3 h3 => hS9 V3 (h.trans (h3.mono h.size))) (fun V3 => short_any f V3)
          (fun V3 h3 => by
            have h4 := h.trans (h3.mono h.size)
            have := run_ready (hp.later h4) sm1 ((hi.below h4).mono h4.size) hci (min f 1500)
            rwa [hL] at this)
          (fun V3 h3 => by
            have h4 := h.trans (h3.mono h.size)
            have := run_ready (hg.later h4) sm2 ((hi.below h4).mono h4.size) hci (min f 1500)
            rwa [hL] at this)
          (fun V3 _ => knows_any V3) _ _ _ _ _ _ _ _ _ _ _ _ _ _ _ _ _ _ _ _ _ _ _ _ _ _ _ _ _ _ _ _ _ _ _ _ _ _ _ _ _ _ _ _ _ _ _ _ _ _ _ _ _ _ _ _ _ _ _ _ _ _ _ _ _ _ _ _ _ _))
    clear hb hS hS9 hp hg hi hlaw sm1 sm2 h2 hci
    unfold grT9 Try.f5
    dsimp only
    go_wp2_with (go_at_call 13; (with_reducible refine HR2.out.mono ?_); rintro e w3 ⟨rfl, hb3⟩)
    exact HGO.out w3 hb3 _ _ _ _ _ _ _ _ _ _ _ _ _ _ _ _ _ _ _ _ _ _ _ _ _ _ _ _ _ _ _ _ _ _ _ _ _ _ _ _ _ _ _ _ _ _ _ _ _ _ _ _ _ _ _ _ _ _ _ _ _ _ _ _ _ _ _ _ _ _ _ ‹∀ (a : Act) (w : World), Code.wp Try.prog _ _ a w → _›
  · obtain ⟨z, hz⟩ : ∃ z, r30 g = z := ⟨_, rfl⟩
    rw [hz] at HR2 h2
    have hn1 : (z == 0) = false := by simpa using h2
    have hn2 : (z != 0) = true := by simpa using h2
    clear hb hS hS9 hp hg hi hlaw sm1 sm2 h2 hci hz
    unfold grT9 Try.f5
    dsimp only
    go_wp2_with (first | (go_at_call 13; (with_reducible refine HR2.out.mono ?_); rintro e w3 ⟨rfl, hb3⟩) | (go_at_call 8; refine (knows_any _).mono ?_; rintro e w8 ⟨rfl, hb8⟩))
    go_ret
    have h1 := HB.out.trans (hb3.mono HB.out.size)
    exact ⟨rfl, h1.trans (hb8.mono h1.size)⟩
/-- what the walk knows from the beginning -/
structure GrIn (W W0 : World) (p : FlatP) (inp : List Int) (Af A1 Ai : Option Addr) (cf d1 ci b o : Nat) : Prop where
  bel : Below W.heap.size W W0
  sz : W0.heap.size = W.heap.size + 1
  h3 : W0.heap[W.heap.size]? = some (.cells #[.slice Af p.funs.length cf, .slice A1 p.main.len d1, .bool p.main.last.v, .int .i64 p.main.last.n] 29 (0, 0))
  flat : FlatIn W.heap.size W p #[.slice Af p.funs.length cf, .slice A1 p.main.len d1, .bool p.main.last.v, .int .i64 p.main.last.n]
  hi : IntsIn W.heap.size W Ai inp
  hci : inp.length ≤ ci
  rg : (∀ g ∈ p.funs, rngA g.body) ∧ rngA p.main
theorem GrIn.cells {W W0 : World} {p : FlatP} {inp : List Int} {Af A1 Ai : Option Addr} {cf d1 ci b o : Nat} (C : GrIn W W0 p inp Af A1 Ai cf d1 ci b o) (V2 : World) (h : Below W0.heap.size W0 V2) : V2.cell? ⟨W.heap.size, 0, none⟩ = some (.slice Af p.funs.length cf) ∧ V2.cell? ⟨W.heap.size, 1, none⟩ = some (.slice A1 p.main.len d1) ∧ V2.cell? ⟨W.heap.size, 2, none⟩ = some (.bool p.main.last.v) ∧ V2.cell? ⟨W.heap.size, 3, none⟩ = some (.int .i64 p.main.last.n) := by
  have h' := (h.block _ (heap_lt C.h3)).trans C.h3
  exact ⟨by simp [World.cell?, h'], by simp [World.cell?, h'], by simp [World.cell?, h'], by simp [World.cell?, h']⟩
theorem GrIn.later {W W0 : World} {p : FlatP} {inp : List Int} {Af A1 Ai : Option Addr} {cf d1 ci b o : Nat} (C : GrIn W W0 p inp Af A1 Ai cf d1 ci b o) {V2 : World} (h : Below W0.heap.size W0 V2) : Below W.heap.size W V2 := C.bel.trans (h.mono C.bel.size)
set_option maxRecDepth 100000 in
set_option maxHeartbeats 16000000 in
theorem gr_guard {W W0 : World} {p : FlatP} {inp : List Int} {Af A1 Ai : Option Addr} {cf d1 ci b o : Nat} (C : GrIn W W0 p inp Af A1 Ai cf d1 ci b o) (hW0 : W.alloc (.cells #[.slice Af p.funs.length cf, .slice A1 p.main.len d1, .bool p.main.last.v, .int .i64 p.main.last.n] 29) = W0) (f : Int) (hg : fewF p inp = false ∨ r30 p ≠ 0) :
    Calls Try.prog 5 #[.agg #[.slice Af p.funs.length cf, .slice A1 p.main.len d1, .bool p.main.last.v, .int .i64 p.main.last.n], .slice Ai inp.length ci, .int .i64 f] W (BoolBelow true W) := by
  have HF := Lib.hid (fewF_any W0 (C.flat.later C.bel) inp Ai ci)
  have HC := Lib.hid C.cells
  have HL := Lib.hid C.bel
  obtain ⟨z0, z1, z2, z3⟩ := C.cells W0 (Below.refl _ _)
  cases hfw : fewF p inp with
  | false =>
    rw [hfw] at HF
    clear C hfw hg
    generalize p.main.len = ml at *
    generalize p.main.last.v = mv at *
    generalize p.main.last.n = mn at *
    generalize inp.length = il at *
    go_enter Try.func5, Try.ntmps5
    go_wp2_with (first | (go_at_call 7; refine (HF.out).mono ?_; rintro e w1 ⟨rfl, hb1⟩; obtain ⟨x0, x1, x2, x3⟩ := HC.out w1 hb1) | (go_at_call 8; refine (knows_any _).mono ?_; rintro e w8 ⟨rfl, hb8⟩))
    go_ret
    have h1 := HL.out.trans (hb1.mono HL.out.size)
    exact ⟨rfl, h1.trans (hb8.mono h1.size)⟩
  | true =>
    rw [hfw] at HF
    have hr : r30 p ≠ 0 := by
      rcases hg with h | h
      · rw [hfw] at h; cases h
      · exact h
    have sm1 := few_small hfw C.rg
    have HR1 := Lib.hid (fun (V2 : World) (h : Below W0.heap.size W0 V2) => rright_any sm1 V2 ((C.flat.later C.bel).later h) (Nat.le_refl _))
    obtain ⟨z, hz⟩ : ∃ z, r30 p = z := ⟨_, rfl⟩
    rw [hz] at HR1 hr
    have hn1 : (z == 0) = false := by simpa using hr
    have hn2 : (z != 0) = true := by simpa using hr
    clear C hfw hg hr sm1 hz
    generalize p.main.len = ml at *
    generalize p.main.last.v = mv at *
    generalize p.main.last.n = mn at *
    generalize inp.length = il at *
    go_enter Try.func5, Try.ntmps5
    go_wp2_with (first | (go_at_call 7; refine (HF.out).mono ?_; rintro e w1 ⟨rfl, hb1⟩; obtain ⟨x0, x1, x2, x3⟩ := HC.out w1 hb1) | (go_at_call 13; (with_reducible refine (HR1.out w1 hb1).mono ?_); rintro e w2 ⟨rfl, hq1⟩; have hb2 := hb1.trans (hq1.mono hb1.size); obtain ⟨x0, x1, x2, x3⟩ := HC.out w2 hb2) | (go_at_call 8; refine (knows_any _).mono ?_; rintro e w8 ⟨rfl, hb8⟩))
    go_ret
    have h1 := HL.out.trans (hb2.mono HL.out.size)
    exact ⟨rfl, h1.trans (hb8.mono h1.size)⟩
open Go.Proofs.YtnobggabjpcbfaaW.PrintWords Go.Proofs.YtnobggabjpcbfaaW.PrintLast in
set_option maxRecDepth 100000 in
set_option maxHeartbeats 16000000 in
theorem gr_walk {W W0 : World} {p : FlatP} {inp : List Int} {Af A1 Ai : Option Addr} {cf d1 ci b o : Nat} (C : GrIn W W0 p inp Af A1 Ai cf d1 ci b o) (hW0 : W.alloc (.cells #[.slice Af p.funs.length cf, .slice A1 p.main.len d1, .bool p.main.last.v, .int .i64 p.main.last.n] 29) = W0) (hnl : p.funs.length ≤ 1048576) (hcf : p.funs.length ≤ cf) (f : Int) (hfw : fewF p inp = true) (hr30 : r30 p = 0)
    (hA : 0 < p.funs.length → Af = some ⟨b, o, none⟩ ∧ b < W.heap.size)
    (hfun : ∀ j (h : j < p.funs.length), ∃ g0 g1 g2, W.cell? ⟨b, o + j * 5, none⟩ = some (.int .i64 p.funs[j].env) ∧ W.cell? ⟨b, o + j * 5 + 1, none⟩ = some (.int .i64 p.funs[j].param) ∧ W.cell? ⟨b, o + j * 5 + 2, none⟩ = some g0 ∧ W.cell? ⟨b, o + j * 5 + 3, none⟩ = some g1 ∧ W.cell? ⟨b, o + j * 5 + 4, none⟩ = some g2 ∧ BodyIn W.heap.size W p.funs[j].body #[g0, g1, g2])
    (hmain : BodyIn W.heap.size W p.main #[.slice A1 p.main.len d1, .bool p.main.last.v, .int .i64 p.main.last.n]) :
    Calls Try.prog 5 #[.agg #[.slice Af p.funs.length cf, .slice A1 p.main.len d1, .bool p.main.last.v, .int .i64 p.main.last.n], .slice Ai inp.length ci, .int .i64 f] W (BoolBelow true W) := by
  have sm1 := few_small hfw C.rg
  have sm2 := small_grouped hfw C.rg
  have hparts := few_parts hfw
  have HF := Lib.hid (fewF_any W0 (C.flat.later C.bel) inp Ai ci)
  rw [hfw] at HF
  have HC := Lib.hid C.cells
  have HL := Lib.hid (fun (V : World) (h : Below W0.heap.size W0 V) => C.later h)
  have HSZ := Lib.hid C.sz
  have HR1 := Lib.hid (fun (V2 : World) (h : Below W0.heap.size W0 V2) => rright_any sm1 V2 ((C.flat.later C.bel).later h) (Nat.le_refl _))
  rw [hr30] at HR1
  have HGM := Lib.hid (fun (V2 : World) (h : Below W0.heap.size W0 V2) => (show Calls Try.prog 14 #[.agg #[.slice A1 p.main.len d1, .bool p.main.last.v, .int .i64 p.main.last.n]] V2 (fun e w' => ∃ Am cm, e = .returned (.agg #[.slice Am p.main.len cm, .bool p.main.last.v, .int .i64 p.main.last.n]) ∧ BodyOn (· < w'.heap.size) w' (grouped p.main) #[.slice Am p.main.len cm, .bool p.main.last.v, .int .i64 p.main.last.n] ∧ Below V2.heap.size V2 w') from
    (grouped_any V2 (hmain.kept (C.later h)) (C.later h).size (by have := len_szA p.main; omega)).mono fun e w' ⟨v0, v1, v2, h1, h2, h3⟩ => by
      have h2' := h2
      obtain ⟨A', c', b', o', hv, -⟩ := h2
      rw [grouped_len, grouped_last] at hv
      simp only [Array.mk.injEq, List.cons.injEq, and_true] at hv
      obtain ⟨rfl, rfl, rfl⟩ := hv
      refine ⟨A', c', h1, h2'.mono (fun k hk => ?_), h3⟩
      have g1 := (C.later h).size
      have g2 := h3.size
      omega))
  have HGB := Lib.hid (fun (j : Nat) (hj : j < p.funs.length) => (show ∃ G0 g1, Af = some ⟨b, o, none⟩ ∧ (∀ V, Below W.heap.size W V → V.cell? ⟨b, o + j * 5, none⟩ = some (.int .i64 p.funs[j].env) ∧ V.cell? ⟨b, o + j * 5 + 1, none⟩ = some (.int .i64 p.funs[j].param) ∧ V.cell? ⟨b, o + j * 5 + 2, none⟩ = some (.slice G0 p.funs[j].body.len g1) ∧ V.cell? ⟨b, o + j * 5 + 3, none⟩ = some (.bool p.funs[j].body.last.v) ∧ V.cell? ⟨b, o + j * 5 + 4, none⟩ = some (.int .i64 p.funs[j].body.last.n)) ∧
      (∀ V2, Below W.heap.size W V2 → Calls Try.prog 14 #[.agg #[.slice G0 p.funs[j].body.len g1, .bool p.funs[j].body.last.v, .int .i64 p.funs[j].body.last.n]] V2 (fun e w' => ∃ Ab cb, e = .returned (.agg #[.slice Ab p.funs[j].body.len cb, .bool p.funs[j].body.last.v, .int .i64 p.funs[j].body.last.n]) ∧ BodyOn (fun k => k < W.heap.size ∨ (V2.heap.size ≤ k ∧ k < w'.heap.size)) w' (grouped p.funs[j].body) #[.slice Ab p.funs[j].body.len cb, .bool p.funs[j].body.last.v, .int .i64 p.funs[j].body.last.n] ∧ Below V2.heap.size V2 w')) from by
    obtain ⟨g0, g1, g2, e0, e1, e2, e3, e4, e5⟩ := hfun j hj
    have hlt := (hA (by omega)).2
    have e5' := e5
    obtain ⟨A0, c0, b0, o0, hv, -⟩ := e5.at_
    simp only [Array.mk.injEq, List.cons.injEq, and_true] at hv
    obtain ⟨rfl, rfl, rfl⟩ := hv
    refine ⟨A0, c0, (hA (by omega)).1, fun V hV => ⟨(hV.cell (p := ⟨_, _, none⟩) hlt).trans e0, (hV.cell (p := ⟨_, _, none⟩) hlt).trans e1, (hV.cell (p := ⟨_, _, none⟩) hlt).trans e2, (hV.cell (p := ⟨_, _, none⟩) hlt).trans e3, (hV.cell (p := ⟨_, _, none⟩) hlt).trans e4⟩, fun V2 h => ?_⟩
    refine (grouped_any V2 (e5'.kept h) h.size (by have h1 := len_szA p.funs[j].body; have h2 := szFuns_at (List.getElem_mem hj); omega)).mono fun e w' ⟨v0, v1, v2, h1, h2, h3⟩ => ?_
    have h2' := h2
    obtain ⟨A', c', b', o', hv, -⟩ := h2
    rw [grouped_len, grouped_last] at hv
    simp only [Array.mk.injEq, List.cons.injEq, and_true] at hv
    obtain ⟨rfl, rfl, rfl⟩ := hv
    exact ⟨A', c', h1, h2', h3⟩))
  have HT9 := Lib.hid (fun (V : World) (X7 ng c9 d8 : Nat) (A9 A8 : Option Addr) (hV : Below W0.heap.size W0 V) (h7 : V.heap[X7]? = some (.cells #[.slice A9 ng c9, .slice A8 p.main.len d8, .bool p.main.last.v, .int .i64 p.main.last.n] 29 (0, 0))) (hg : FlatIn V.heap.size V ⟨p.funs.map grp, grouped p.main⟩ #[.slice A9 ng c9, .slice A8 p.main.len d8, .bool p.main.last.v, .int .i64 p.main.last.n]) (y0 y4 y5 y6 y8 y9 y10 y11 y12 y13 y14 y15 y16 y17 y18 y19 y20 y21 y22 y23 y24 y25 y26 y27 y28 y29 y30 y31 y32 y33 y34 y35 y36 y37 y38 y39 y40 y41 y42 y43 y44 y45 y46 y47 y48 y49 y50 y51 y52 y53 y54 y55 y56 y57 y58 y59 y60 y61 y62 y63 y64 y65 y66 y67 y68 y69 y70 y71 y72 y73 : Value) =>
    (show grT9.wp Try.prog (bodyPost Try.prog Try.f5 (BoolBelow true W)) { tmps := #[y0, .slice Ai inp.length ci, .int .i64 f, .pointer (some ⟨W.heap.size, 0, none⟩), y4, y5, y6, .pointer (some ⟨X7, 0, none⟩), y8, y9, y10, y11, y12, y13, y14, y15, y16, y17, y18, y19, y20, y21, y22, y23, y24, y25, y26, y27, y28, y29, y30, y31, y32, y33, y34, y35, y36, y37, y38, y39, y40, y41, y42, y43, y44, y45, y46, y47, y48, y49, y50, y51, y52, y53, y54, y55, y56, y57, y58, y59, y60, y61, y62, y63, y64, y65, y66, y67, y68, y69, y70, y71, y72, y73], defers := [] } V from
      gr_tail9 (p := p) (g := ⟨p.funs.map grp, grouped p.main⟩) (inp := inp) (C.later hV) rfl (fun V3 h3 => C.cells V3 (hV.trans (h3.mono hV.size))) (fun V3 h3 => by
          have h' := (h3.block X7 (heap_lt h7)).trans h7
          exact ⟨by simp [World.cell?, h'], by simp [World.cell?, h'], by simp [World.cell?, h'], by simp [World.cell?, h']⟩) ((C.flat.later C.bel).later hV) hg ((C.hi.below (C.later hV)).mono (C.later hV).size) C.hci sm1 sm2 (fun h2 => group_law p inp (min f 1500) hr30 h2) _ _ _ _ _ _ _ _ _ _ _ _ _ _ _ _ _ _ _ _ _ _ _ _ _ _ _ _ _ _ _ _ _ _ _ _ _ _ _ _ _ _ _ _ _ _ _ _ _ _ _ _ _ _ _ _ _ _ _ _ _ _ _ _ _ _ _ _ _ _))
  obtain ⟨z0, z1, z2, z3⟩ := C.cells W0 (Below.refl _ _)
  have hcf' : (p.funs.length : Int) ≤ (cf : Int) := by omega
  obtain ⟨inf0, hinf, hz0, hz1, hz2⟩ := info_parts infoFun
  clear C hfun hA hmain sm1 sm2 hparts hfw hr30
  go_enter Try.func5, Try.ntmps5
  show (Code.seq grC0 (Code.seq grC1 (Code.seq grC2 (Code.seq grC3 grT9)))).wp Try.prog _ _ _
  obtain ⟨T9, hT9⟩ : ∃ c, grT9 = c := ⟨_, rfl⟩
  obtain ⟨Q, hQ⟩ : ∃ Q, (bodyPost Try.prog Try.f5 (BoolBelow true W)) = Q := ⟨_, rfl⟩
  rw [hT9, hQ] at HT9
  rw [hT9, hQ]
  clear hT9 hQ
  unfold grC0 grC1 grC2 grC3 Try.f5
  dsimp only
  go_wp2_with (first | (go_at_call 7; refine (HF.out).mono ?_; rintro e w1 ⟨rfl, hb1⟩; obtain ⟨x0, x1, x2, x3⟩ := HC.out w1 hb1) | (go_at_call 13; (with_reducible refine (HR1.out w1 hb1).mono ?_); rintro e w2 ⟨rfl, hq1⟩; have hb2 := hb1.trans (hq1.mono hb1.size); obtain ⟨x0, x1, x2, x3⟩ := HC.out w2 hb2))
  refine (HGM.out w2 hb2).mono ?_
  rintro en w3 ⟨Am, cm, rfl, hbm, hq3⟩
  have hb3 := hb2.trans (hq3.mono hb2.size)
  have HB3 := Lib.hid hb3
  have HBM := Lib.hid hbm
  obtain ⟨W7, hW7⟩ : ∃ w, w3.alloc (.cells #[.slice none 0 0, .slice Am p.main.len cm, .bool p.main.last.v, .int .i64 p.main.last.n] 29) = w := ⟨_, rfl⟩
  have hb7 : Below w3.heap.size w3 W7 := by rw [← hW7]; exact (Below.refl _ _).alloc (Nat.le_refl _) _
  have hn7 : W7.heap[w3.heap.size]? = some (.cells #[.slice none 0 0, .slice Am p.main.len cm, .bool p.main.last.v, .int .i64 p.main.last.n] 29 (0, 0)) := by rw [← hW7]; exact World.alloc_heap_new w3 _
  obtain ⟨u0, u1, u2, u3⟩ := HC.out W7 (hb3.trans (hb7.mono hb3.size))
  have HB0X := Lib.hid (show W.heap.size ≤ w3.heap.size ∧ W0.heap.size ≤ w3.heap.size from ⟨(HL.out w3 hb3).size, hb3.size⟩)
  have HST := Lib.hid (show GL W.heap.size w3 w3.heap.size (.slice Am p.main.len cm) (.bool p.main.last.v) (.int .i64 p.main.last.n) p.funs 0 (.slice none 0 0) [] W7 from ⟨hb7, hn7, ⟨by simp, .inl ⟨rfl, rfl⟩⟩, ⟨by simp, fun j hj => absurd hj (by simp)⟩⟩)
  clear hb3 hq3 hbm hb7 hn7 hb2 hb1 hq1 x0 x1 x2 x3
  go_wp2_with fail
  go_loopw [29] (fun iv wr => ∃ (j : Nat) (mv : Value) (news : List Value), j ≤ p.funs.length ∧ iv = .int .i64 (j : Int) ∧ Hid (GL W.heap.size w3 w3.heap.size (.slice Am p.main.len cm) (.bool p.main.last.v) (.int .i64 p.main.last.n) p.funs j mv news wr)) (fun iv _ => p.funs.length + 1 - (intOf iv).toNat)
  case atStart => exact ⟨0, _, _, by omega, rfl, HST⟩
  case round =>
    obtain ⟨wo, rfl⟩ : ∃ wo, wo = wr := ⟨_, rfl⟩
    obtain ⟨j, mv, news, hj, rfl, HJ⟩ := hrel
    have HJW := Lib.hid (show Below W.heap.size W wo ∧ Below W0.heap.size W0 wo from by
      have h1 : Below W0.heap.size W0 wo := HB3.out.trans (HJ.out.bel.mono HB3.out.size)
      exact ⟨HL.out wo h1, h1⟩)
    by_cases hlt : j < p.funs.length
    · obtain ⟨G0, g1, rfl, hcells, hgr⟩ := HGB.out j hlt
      obtain ⟨s0, s1, s2, s3, s4⟩ := hcells wo HJW.out.1
      have HGR0 := Lib.hid hgr
      obtain ⟨Aq, cq, rfl⟩ := own_slice HJ.out.row
      have e1 : (0 : Int) ≤ (j : Int) := by omega
      have e2 : (j : Int) < (p.funs.length : Int) := by omega
      have e4 : IntKind.i64.wrap ((j : Int) + 1) = (j : Int) + 1 := by rw [IntKind.wrap_i64]; omega
      have HGJ := Lib.hid (List.getElem?_eq_getElem hlt)
      clear hcells hgr
      obtain ⟨gg, hgg⟩ : ∃ g, p.funs[j] = g := ⟨_, rfl⟩
      rw [hgg] at s0 s1 s2 s3 s4 HGR0 HGJ
      clear hgg
      obtain ⟨V, hV⟩ : ∃ w, wo.alloc (.cells #[.int .i64 gg.env, .int .i64 gg.param, .slice G0 gg.body.len g1, .bool gg.body.last.v, .int .i64 gg.body.last.n] 42) = w := ⟨_, rfl⟩
      have hbV : Below wo.heap.size wo V := by rw [← hV]; exact (Below.refl _ _).alloc (Nat.le_refl _) _
      have hsV : V.heap.size = wo.heap.size + 1 := by rw [← hV]; simp
      have hnV : V.heap[wo.heap.size]? = some (.cells #[.int .i64 gg.env, .int .i64 gg.param, .slice G0 gg.body.len g1, .bool gg.body.last.v, .int .i64 gg.body.last.n] 42 (0, 0)) := by rw [← hV]; exact World.alloc_heap_new wo _
      have hx7 := heap_lt HJ.out.h7
      have hx7V : V.heap[w3.heap.size]? = some (.cells #[.slice Aq j cq, .slice Am p.main.len cm, .bool p.main.last.v, .int .i64 p.main.last.n] 29 (0, 0)) := (hbV.block _ hx7).trans HJ.out.h7
      have HMORE := Lib.hid (fun (Ab : Option Addr) (cb : Nat) (An : Option Addr) (cn : Nat) (w : World) (ha : AppR V W.heap.size w3.heap.size (.slice Aq j cq) (.slice An (j + 1) cn) j (news ++ [.int .i64 gg.env, .int .i64 gg.param, .slice Ab gg.body.len cb, .bool gg.body.last.v, .int .i64 gg.body.last.n]) (grouped gg.body) #[.slice Ab gg.body.len cb, .bool gg.body.last.v, .int .i64 gg.body.last.n] w) => HJ.out.more HB0X.out.1 hbV HGJ.out ha)
      have HGR := Lib.hid (fun (V2 : World) (h : Below V.heap.size V V2) => HGR0.out V2 (HJW.out.1.trans ((hbV.trans (h.mono hbV.size)).mono HJW.out.1.size)))
      have HROW := Lib.hid (show V.ownsRow (w3.heap.size + 1) 42 5 (.slice Aq j cq) j news from ownsRow_same HJ.out.row (fun k hk => hbV.block k (HJ.out.row.lt k hk).2))
      have HLT := Lib.hid (fun (k : Nat) (hk : (Value.slice Aq j cq).ownBlock = some k) => (show k < V.heap.size ∧ w3.heap.size < k ∧ k ≠ wo.heap.size from by have := HJ.out.row.lt k hk; omega))
      have HLX := Lib.hid (show w3.heap.size < V.heap.size ∧ w3.heap.size < wo.heap.size ∧ W.heap.size ≤ w3.heap.size from by have := HB0X.out; omega)
      have HLY := Lib.hid (show wo.heap.size < V.heap.size from by omega)
      have HBV := Lib.hid (show W.heap.size ≤ V.heap.size from by have := HB0X.out; omega)
      have HX7 := Lib.hid hx7V
      have HS0 := Lib.hid (show V.drew.cell? ⟨w3.heap.size, 0, none⟩ = some (.slice Aq j cq) ∧ V.drew.cell? ⟨wo.heap.size, 0, none⟩ = some (.int .i64 gg.env) ∧ V.drew.cell? ⟨wo.heap.size, 1, none⟩ = some (.int .i64 gg.param) ∧ V.drew.cell? ⟨wo.heap.size, 2, none⟩ = some (.slice G0 gg.body.len g1) ∧ V.drew.cell? ⟨wo.heap.size, 3, none⟩ = some (.bool gg.body.last.v) ∧ V.drew.cell? ⟨wo.heap.size, 4, none⟩ = some (.int .i64 gg.body.last.n) from by
        have c1 : ∀ (w : World) (p : Addr), w.drew.cell? p = w.cell? p := fun w p => rfl
        simp only [c1]
        exact ⟨by simp [World.cell?, hx7V], by simp [World.cell?, hnV], by simp [World.cell?, hnV], by simp [World.cell?, hnV], by simp [World.cell?, hnV], by simp [World.cell?, hnV]⟩)
      have D0 := Lib.hid (show Below V.heap.size V V.drew from (Below.refl _ _).drew)
      have hml : j + 1 ≤ maxLen := by unfold maxLen; omega
      have hmb : (j + 1) * 56 ≤ 140737488355328 := by omega
      clear hbV hsV hnV hx7 hx7V
      go_wp2_with fail
      refine start_ (n := 14) (S := fun w' => True) (ds := []) #[false, false, false, false, false, false, false, false, false, false, false, false, false, false] (by kernel_rfl) rfl rfl trivial (fun hHeld => ?_)
      clear hHeld
      refine inv_at (B := [0, 1, 0, 4, 0, 16, 0, 64, 192, 508, 1020, 2047, 4095, 8191]) [0, 1, 2, 3, 4, 5, 6, 7, 8, 9, 10, 11, 12, 13] (fun a0_ b a w' => ∃ Ab cb Rr An cn, a = putSel a0_ b [(0, 33, .pointer (some ⟨w3.heap.size, 0, none⟩)), (1, 34, .slice Aq j cq), (2, 35, .pointer (some ⟨wo.heap.size, 0, none⟩)), (3, 36, .int .i64 gg.env), (4, 37, .pointer (some ⟨wo.heap.size, 1, none⟩)), (5, 38, .int .i64 gg.param), (6, 39, .pointer (some ⟨wo.heap.size, 2, none⟩)), (7, 40, .agg #[.slice G0 gg.body.len g1, .bool gg.body.last.v, .int .i64 gg.body.last.n]), (8, 41, .agg #[.slice Ab gg.body.len cb, .bool gg.body.last.v, .int .i64 gg.body.last.n]), (9, 42, .agg #[.int .i64 gg.env, .int .i64 gg.param, .slice Ab gg.body.len cb, .bool gg.body.last.v, .int .i64 gg.body.last.n]), (10, 43, .slice (some ⟨Rr, 0, none⟩) 1 1), (11, 44, .slice An (j + 1) cn), (12, 45, .pointer (some ⟨w3.heap.size, 0, none⟩))] ∧ Chn [(!b 13), (!b 8), (b 8 && !b 10), (b 10 && !b 11), (b 11 && !b 13), (b 13)] [(fun w => w.cell? ⟨w3.heap.size, 0, none⟩ = some (.slice Aq j cq) ∧ w.cell? ⟨wo.heap.size, 0, none⟩ = some (.int .i64 gg.env) ∧ w.cell? ⟨wo.heap.size, 1, none⟩ = some (.int .i64 gg.param) ∧ w.cell? ⟨wo.heap.size, 2, none⟩ = some (.slice G0 gg.body.len g1) ∧ w.cell? ⟨wo.heap.size, 3, none⟩ = some (.bool gg.body.last.v) ∧ w.cell? ⟨wo.heap.size, 4, none⟩ = some (.int .i64 gg.body.last.n)), (fun w => Below V.heap.size V w), (fun w => Below V.heap.size V w ∧ BodyOn (fun k => k < W.heap.size ∨ (V.heap.size ≤ k ∧ k < w.heap.size)) w (grouped gg.body) #[.slice Ab gg.body.len cb, .bool gg.body.last.v, .int .i64 gg.body.last.n]), (fun w => Below V.heap.size V w ∧ BodyOn (fun k => k < W.heap.size ∨ (V.heap.size ≤ k ∧ k < w.heap.size)) w (grouped gg.body) #[.slice Ab gg.body.len cb, .bool gg.body.last.v, .int .i64 gg.body.last.n] ∧ RowI w (some ⟨Rr, 0, none⟩) [Value.int .i64 gg.env, .int .i64 gg.param, .slice Ab gg.body.len cb, .bool gg.body.last.v, .int .i64 gg.body.last.n]), (fun w => AppR V W.heap.size w3.heap.size (.slice Aq j cq) (.slice An (j + 1) cn) j (news ++ [Value.int .i64 gg.env, .int .i64 gg.param, .slice Ab gg.body.len cb, .bool gg.body.last.v, .int .i64 gg.body.last.n]) (grouped gg.body) #[.slice Ab gg.body.len cb, .bool gg.body.last.v, .int .i64 gg.body.last.n] w), (fun w => GL W.heap.size w3 w3.heap.size (.slice Am p.main.len cm) (.bool p.main.last.v) (.int .i64 p.main.last.n) p.funs (j + 1) (.slice An (j + 1) cn) (news ++ [Value.int .i64 gg.env, .int .i64 gg.param, .slice Ab gg.body.len cb, .bool gg.body.last.v, .int .i64 gg.body.last.n]) w)] w') rfl (by kernel_rfl) (by kernel_rfl) (by kernel_rfl) ?_ ?_ ?_
      · exact ⟨none, 0, 0, none, 0, by simp only [putSel, Bool.false_eq_true, if_false], ⟨fun i h => by match i, h with | 0, h => exact HS0.out | 1, h => exact D0.out | 2, h => exact Bool.noConfusion h | 3, h => exact Bool.noConfusion h | 4, h => exact Bool.noConfusion h | 5, h => exact Bool.noConfusion h | i + 6, h => simp at h⟩⟩
      · skip
        refine steps_cons ?_ ?_
        · rintro b a w' ⟨Ab, cb, Rr, An, cn, ha, hI⟩ hb_ hon hoff
          refine ⟨_, rfl, fun K hK => ?_⟩
          have m7 : a.tmps[7]? = some (.pointer (some ⟨w3.heap.size, 0, none⟩)) := by rw [ha]; exact (putSel_off rfl).trans rfl
          replace ha := Lib.hid ha
          have HI := Lib.hid hI
          clear hI
          refine value_ (w1 := w') (v := .pointer (some ⟨w3.heap.size, 0, none⟩)) (by rfl) rfl ?_ ?_
          · go_simp
            try rfl
          exact hK.out _ _ ⟨Ab, cb, Rr, An, cn, (by rw [ha.out]; exact putSel_upk 0 hb_ rfl rfl rfl), (by have h := HI.out; have eb8 : up b 0 8 = b 8 := up_ne (by decide); have eb10 : up b 0 10 = b 10 := up_ne (by decide); have eb11 : up b 0 11 = b 11 := up_ne (by decide); have eb13 : up b 0 13 = b 13 := up_ne (by decide); rw [eb8, eb10, eb11, eb13]; exact h)⟩
        refine steps_cons ?_ ?_
        · rintro b a w' ⟨Ab, cb, Rr, An, cn, ha, hI⟩ hb_ hon hoff
          refine ⟨_, rfl, fun K hK => ?_⟩
          have q0 : a.tmps[33]? = some (.pointer (some ⟨w3.heap.size, 0, none⟩)) := by rw [ha]; exact putSel_on (e := (0, 33, .pointer (some ⟨w3.heap.size, 0, none⟩))) 0 rfl rfl (hon 0 (by kernel_rfl)) rfl
          obtain ⟨s0, s1, s2, s3, s4, s5⟩ := (hI.hold 0 (by show (!b 13) = true; rw [hoff 13 (by kernel_rfl)]; try rfl) : w'.cell? ⟨w3.heap.size, 0, none⟩ = some (.slice Aq j cq) ∧ w'.cell? ⟨wo.heap.size, 0, none⟩ = some (.int .i64 gg.env) ∧ w'.cell? ⟨wo.heap.size, 1, none⟩ = some (.int .i64 gg.param) ∧ w'.cell? ⟨wo.heap.size, 2, none⟩ = some (.slice G0 gg.body.len g1) ∧ w'.cell? ⟨wo.heap.size, 3, none⟩ = some (.bool gg.body.last.v) ∧ w'.cell? ⟨wo.heap.size, 4, none⟩ = some (.int .i64 gg.body.last.n))
          replace ha := Lib.hid ha
          have HI := Lib.hid hI
          clear hI
          refine value_ (w1 := w') (v := .slice Aq j cq) (by rfl) rfl ?_ ?_
          · go_simp
            try rfl
          exact hK.out _ _ ⟨Ab, cb, Rr, An, cn, (by rw [ha.out]; exact putSel_upk 1 hb_ rfl rfl rfl), (by have h := HI.out; have eb8 : up b 1 8 = b 8 := up_ne (by decide); have eb10 : up b 1 10 = b 10 := up_ne (by decide); have eb11 : up b 1 11 = b 11 := up_ne (by decide); have eb13 : up b 1 13 = b 13 := up_ne (by decide); rw [eb8, eb10, eb11, eb13]; exact h)⟩
        refine steps_cons ?_ ?_
        · rintro b a w' ⟨Ab, cb, Rr, An, cn, ha, hI⟩ hb_ hon hoff
          refine ⟨_, rfl, fun K hK => ?_⟩
          have m9 : a.tmps[9]? = some (.pointer (some ⟨wo.heap.size, 0, none⟩)) := by rw [ha]; exact (putSel_off rfl).trans rfl
          replace ha := Lib.hid ha
          have HI := Lib.hid hI
          clear hI
          refine value_ (w1 := w') (v := .pointer (some ⟨wo.heap.size, 0, none⟩)) (by rfl) rfl ?_ ?_
          · go_simp
            try rfl
          exact hK.out _ _ ⟨Ab, cb, Rr, An, cn, (by rw [ha.out]; exact putSel_upk 2 hb_ rfl rfl rfl), (by have h := HI.out; have eb8 : up b 2 8 = b 8 := up_ne (by decide); have eb10 : up b 2 10 = b 10 := up_ne (by decide); have eb11 : up b 2 11 = b 11 := up_ne (by decide); have eb13 : up b 2 13 = b 13 := up_ne (by decide); rw [eb8, eb10, eb11, eb13]; exact h)⟩
        refine steps_cons ?_ ?_
        · rintro b a w' ⟨Ab, cb, Rr, An, cn, ha, hI⟩ hb_ hon hoff
          refine ⟨_, rfl, fun K hK => ?_⟩
          have q2 : a.tmps[35]? = some (.pointer (some ⟨wo.heap.size, 0, none⟩)) := by rw [ha]; exact putSel_on (e := (2, 35, .pointer (some ⟨wo.heap.size, 0, none⟩))) 2 rfl rfl (hon 2 (by kernel_rfl)) rfl
          obtain ⟨s0, s1, s2, s3, s4, s5⟩ := (hI.hold 0 (by show (!b 13) = true; rw [hoff 13 (by kernel_rfl)]; try rfl) : w'.cell? ⟨w3.heap.size, 0, none⟩ = some (.slice Aq j cq) ∧ w'.cell? ⟨wo.heap.size, 0, none⟩ = some (.int .i64 gg.env) ∧ w'.cell? ⟨wo.heap.size, 1, none⟩ = some (.int .i64 gg.param) ∧ w'.cell? ⟨wo.heap.size, 2, none⟩ = some (.slice G0 gg.body.len g1) ∧ w'.cell? ⟨wo.heap.size, 3, none⟩ = some (.bool gg.body.last.v) ∧ w'.cell? ⟨wo.heap.size, 4, none⟩ = some (.int .i64 gg.body.last.n))
          replace ha := Lib.hid ha
          have HI := Lib.hid hI
          clear hI
          refine value_ (w1 := w') (v := .int .i64 gg.env) (by rfl) rfl ?_ ?_
          · go_simp
            try rfl
          exact hK.out _ _ ⟨Ab, cb, Rr, An, cn, (by rw [ha.out]; exact putSel_upk 3 hb_ rfl rfl rfl), (by have h := HI.out; have eb8 : up b 3 8 = b 8 := up_ne (by decide); have eb10 : up b 3 10 = b 10 := up_ne (by decide); have eb11 : up b 3 11 = b 11 := up_ne (by decide); have eb13 : up b 3 13 = b 13 := up_ne (by decide); rw [eb8, eb10, eb11, eb13]; exact h)⟩
        refine steps_cons ?_ ?_
        · rintro b a w' ⟨Ab, cb, Rr, An, cn, ha, hI⟩ hb_ hon hoff
          refine ⟨_, rfl, fun K hK => ?_⟩
          have m9 : a.tmps[9]? = some (.pointer (some ⟨wo.heap.size, 0, none⟩)) := by rw [ha]; exact (putSel_off rfl).trans rfl
          replace ha := Lib.hid ha
          have HI := Lib.hid hI
          clear hI
          refine value_ (w1 := w') (v := .pointer (some ⟨wo.heap.size, 1, none⟩)) (by rfl) rfl ?_ ?_
          · go_simp
            try rfl
          exact hK.out _ _ ⟨Ab, cb, Rr, An, cn, (by rw [ha.out]; exact putSel_upk 4 hb_ rfl rfl rfl), (by have h := HI.out; have eb8 : up b 4 8 = b 8 := up_ne (by decide); have eb10 : up b 4 10 = b 10 := up_ne (by decide); have eb11 : up b 4 11 = b 11 := up_ne (by decide); have eb13 : up b 4 13 = b 13 := up_ne (by decide); rw [eb8, eb10, eb11, eb13]; exact h)⟩
        refine steps_cons ?_ ?_
        · rintro b a w' ⟨Ab, cb, Rr, An, cn, ha, hI⟩ hb_ hon hoff
          refine ⟨_, rfl, fun K hK => ?_⟩
          have q4 : a.tmps[37]? = some (.pointer (some ⟨wo.heap.size, 1, none⟩)) := by rw [ha]; exact putSel_on (e := (4, 37, .pointer (some ⟨wo.heap.size, 1, none⟩))) 4 rfl rfl (hon 4 (by kernel_rfl)) rfl
          obtain ⟨s0, s1, s2, s3, s4, s5⟩ := (hI.hold 0 (by show (!b 13) = true; rw [hoff 13 (by kernel_rfl)]; try rfl) : w'.cell? ⟨w3.heap.size, 0, none⟩ = some (.slice Aq j cq) ∧ w'.cell? ⟨wo.heap.size, 0, none⟩ = some (.int .i64 gg.env) ∧ w'.cell? ⟨wo.heap.size, 1, none⟩ = some (.int .i64 gg.param) ∧ w'.cell? ⟨wo.heap.size, 2, none⟩ = some (.slice G0 gg.body.len g1) ∧ w'.cell? ⟨wo.heap.size, 3, none⟩ = some (.bool gg.body.last.v) ∧ w'.cell? ⟨wo.heap.size, 4, none⟩ = some (.int .i64 gg.body.last.n))
          replace ha := Lib.hid ha
          have HI := Lib.hid hI
          clear hI
          refine value_ (w1 := w') (v := .int .i64 gg.param) (by rfl) rfl ?_ ?_
          · go_simp
            try rfl
          exact hK.out _ _ ⟨Ab, cb, Rr, An, cn, (by rw [ha.out]; exact putSel_upk 5 hb_ rfl rfl rfl), (by have h := HI.out; have eb8 : up b 5 8 = b 8 := up_ne (by decide); have eb10 : up b 5 10 = b 10 := up_ne (by decide); have eb11 : up b 5 11 = b 11 := up_ne (by decide); have eb13 : up b 5 13 = b 13 := up_ne (by decide); rw [eb8, eb10, eb11, eb13]; exact h)⟩
        refine steps_cons ?_ ?_
        · rintro b a w' ⟨Ab, cb, Rr, An, cn, ha, hI⟩ hb_ hon hoff
          refine ⟨_, rfl, fun K hK => ?_⟩
          have m9 : a.tmps[9]? = some (.pointer (some ⟨wo.heap.size, 0, none⟩)) := by rw [ha]; exact (putSel_off rfl).trans rfl
          replace ha := Lib.hid ha
          have HI := Lib.hid hI
          clear hI
          refine value_ (w1 := w') (v := .pointer (some ⟨wo.heap.size, 2, none⟩)) (by rfl) rfl ?_ ?_
          · go_simp
            try rfl
          exact hK.out _ _ ⟨Ab, cb, Rr, An, cn, (by rw [ha.out]; exact putSel_upk 6 hb_ rfl rfl rfl), (by have h := HI.out; have eb8 : up b 6 8 = b 8 := up_ne (by decide); have eb10 : up b 6 10 = b 10 := up_ne (by decide); have eb11 : up b 6 11 = b 11 := up_ne (by decide); have eb13 : up b 6 13 = b 13 := up_ne (by decide); rw [eb8, eb10, eb11, eb13]; exact h)⟩
        refine steps_cons ?_ ?_
        · rintro b a w' ⟨Ab, cb, Rr, An, cn, ha, hI⟩ hb_ hon hoff
          refine ⟨_, rfl, fun K hK => ?_⟩
          have q6 : a.tmps[39]? = some (.pointer (some ⟨wo.heap.size, 2, none⟩)) := by rw [ha]; exact putSel_on (e := (6, 39, .pointer (some ⟨wo.heap.size, 2, none⟩))) 6 rfl rfl (hon 6 (by kernel_rfl)) rfl
          obtain ⟨s0, s1, s2, s3, s4, s5⟩ := (hI.hold 0 (by show (!b 13) = true; rw [hoff 13 (by kernel_rfl)]; try rfl) : w'.cell? ⟨w3.heap.size, 0, none⟩ = some (.slice Aq j cq) ∧ w'.cell? ⟨wo.heap.size, 0, none⟩ = some (.int .i64 gg.env) ∧ w'.cell? ⟨wo.heap.size, 1, none⟩ = some (.int .i64 gg.param) ∧ w'.cell? ⟨wo.heap.size, 2, none⟩ = some (.slice G0 gg.body.len g1) ∧ w'.cell? ⟨wo.heap.size, 3, none⟩ = some (.bool gg.body.last.v) ∧ w'.cell? ⟨wo.heap.size, 4, none⟩ = some (.int .i64 gg.body.last.n))
          replace ha := Lib.hid ha
          have HI := Lib.hid hI
          clear hI
          refine value_ (w1 := w') (v := .agg #[.slice G0 gg.body.len g1, .bool gg.body.last.v, .int .i64 gg.body.last.n]) (by rfl) rfl ?_ ?_
          · go_simp
            try rfl
          exact hK.out _ _ ⟨Ab, cb, Rr, An, cn, (by rw [ha.out]; exact putSel_upk 7 hb_ rfl rfl rfl), (by have h := HI.out; have eb8 : up b 7 8 = b 8 := up_ne (by decide); have eb10 : up b 7 10 = b 10 := up_ne (by decide); have eb11 : up b 7 11 = b 11 := up_ne (by decide); have eb13 : up b 7 13 = b 13 := up_ne (by decide); rw [eb8, eb10, eb11, eb13]; exact h)⟩
        refine steps_cons ?_ ?_
        · rintro b a w' ⟨Ab, cb, Rr, An, cn, ha, hI⟩ hb_ hon hoff
          refine ⟨_, rfl, fun K hK => ?_⟩
          have q7 : a.tmps[40]? = some (.agg #[.slice G0 gg.body.len g1, .bool gg.body.last.v, .int .i64 gg.body.last.n]) := by rw [ha]; exact putSel_on (e := (7, 40, .agg #[.slice G0 gg.body.len g1, .bool gg.body.last.v, .int .i64 gg.body.last.n])) 7 rfl rfl (hon 7 (by kernel_rfl)) rfl
          replace ha := Lib.hid ha
          have HI := Lib.hid hI
          clear hI
          refine goes_ Try.func14 (by kernel_rfl) rfl #[.agg #[.slice G0 gg.body.len g1, .bool gg.body.last.v, .int .i64 gg.body.last.n]] (by rfl) rfl rfl (by first | (simp only [List.map_toArray, List.map_cons, List.map_nil, Act.eval, Array.getD_eq_getD_getElem?, Option.getD_some, q7]; done) | (simp only [List.map_toArray, List.map_cons, List.map_nil, Act.eval, Array.getD_eq_getD_getElem?, Option.getD_some, q7]; rfl)) ?_
          have hb0 : Below V.heap.size V w' := HI.out.hold 1 (by show (!b 8) = true; rw [hb_]; try rfl)
          refine (HGR.out w' hb0).mono ?_
          rintro e w2 ⟨Ab_, cb_, rfl, hbo, hb2⟩
          have hsS : w2.cell? ⟨w3.heap.size, 0, none⟩ = some (.slice Aq j cq) ∧ w2.cell? ⟨wo.heap.size, 0, none⟩ = some (.int .i64 gg.env) ∧ w2.cell? ⟨wo.heap.size, 1, none⟩ = some (.int .i64 gg.param) ∧ w2.cell? ⟨wo.heap.size, 2, none⟩ = some (.slice G0 gg.body.len g1) ∧ w2.cell? ⟨wo.heap.size, 3, none⟩ = some (.bool gg.body.last.v) ∧ w2.cell? ⟨wo.heap.size, 4, none⟩ = some (.int .i64 gg.body.last.n) := (by obtain ⟨s0, s1, s2, s3, s4, s5⟩ := (HI.out.hold 0 (by show (!b 13) = true; rw [hoff 13 (by kernel_rfl)]; try rfl) : w'.cell? ⟨w3.heap.size, 0, none⟩ = some (.slice Aq j cq) ∧ w'.cell? ⟨wo.heap.size, 0, none⟩ = some (.int .i64 gg.env) ∧ w'.cell? ⟨wo.heap.size, 1, none⟩ = some (.int .i64 gg.param) ∧ w'.cell? ⟨wo.heap.size, 2, none⟩ = some (.slice G0 gg.body.len g1) ∧ w'.cell? ⟨wo.heap.size, 3, none⟩ = some (.bool gg.body.last.v) ∧ w'.cell? ⟨wo.heap.size, 4, none⟩ = some (.int .i64 gg.body.last.n)); exact ⟨cell_behind hb2 s0, cell_behind hb2 s1, cell_behind hb2 s2, cell_behind hb2 s3, cell_behind hb2 s4, cell_behind hb2 s5⟩)
          have hb3 := hb0.trans (hb2.mono hb0.size)
          exact ⟨_, rfl, hK.out _ _ ⟨Ab_, cb_, Rr, An, cn, (by rw [ha.out]; exact ((putSel_upk 8 hb_ rfl rfl rfl).trans (putSel_alt 9 rfl rfl ((up_ne (by decide)).trans (hoff 9 (by kernel_rfl)))))), ⟨by intro j hj; have eb10 : up b 8 10 = b 10 := up_ne (by decide); have eb11 : up b 8 11 = b 11 := up_ne (by decide); have eb13 : up b 8 13 = b 13 := up_ne (by decide); have eb8 : up b 8 8 = true := up_self _ _; match j, hj with | 0, hj => exact hsS | 1, hj => (change (!up b 8 8) = true at hj; rw [eb8] at hj; simp at hj) | 2, hj => exact ⟨hb3, hbo.mono (fun k hk => hk.imp id (fun h => ⟨Nat.le_trans hb0.size h.1, h.2⟩))⟩ | 3, hj => (change (up b 8 10 && !up b 8 11) = true at hj; rw [eb10, hoff 10 (by kernel_rfl), eb11, hoff 11 (by kernel_rfl)] at hj; simp at hj) | 4, hj => (change (up b 8 11 && !up b 8 13) = true at hj; rw [eb11, hoff 11 (by kernel_rfl), eb13, hoff 13 (by kernel_rfl)] at hj; simp at hj) | 5, hj => (change (up b 8 13) = true at hj; rw [eb13, hoff 13 (by kernel_rfl)] at hj; simp at hj) | j + 6, hj => simp at hj⟩⟩⟩
        refine steps_cons ?_ ?_
        · rintro b a w' ⟨Ab, cb, Rr, An, cn, ha, hI⟩ hb_ hon hoff
          refine ⟨_, rfl, fun K hK => ?_⟩
          have q3 : a.tmps[36]? = some (.int .i64 gg.env) := by rw [ha]; exact putSel_on (e := (3, 36, .int .i64 gg.env)) 3 rfl rfl (hon 3 (by kernel_rfl)) rfl
          have q5 : a.tmps[38]? = some (.int .i64 gg.param) := by rw [ha]; exact putSel_on (e := (5, 38, .int .i64 gg.param)) 5 rfl rfl (hon 5 (by kernel_rfl)) rfl
          have q8 : a.tmps[41]? = some (.agg #[.slice Ab gg.body.len cb, .bool gg.body.last.v, .int .i64 gg.body.last.n]) := by rw [ha]; exact putSel_on (e := (8, 41, .agg #[.slice Ab gg.body.len cb, .bool gg.body.last.v, .int .i64 gg.body.last.n])) 8 rfl rfl (hon 8 (by kernel_rfl)) rfl
          replace ha := Lib.hid ha
          have HI := Lib.hid hI
          clear hI
          refine value_ (w1 := w') (v := .agg #[.int .i64 gg.env, .int .i64 gg.param, .slice Ab gg.body.len cb, .bool gg.body.last.v, .int .i64 gg.body.last.n]) (by rfl) rfl ?_ ?_
          · go_simp
            try rfl
          exact hK.out _ _ ⟨Ab, cb, Rr, An, cn, (by rw [ha.out]; exact putSel_upk 9 hb_ rfl rfl rfl), (by have h := HI.out; have eb8 : up b 9 8 = b 8 := up_ne (by decide); have eb10 : up b 9 10 = b 10 := up_ne (by decide); have eb11 : up b 9 11 = b 11 := up_ne (by decide); have eb13 : up b 9 13 = b 13 := up_ne (by decide); rw [eb8, eb10, eb11, eb13]; exact h)⟩
        refine steps_cons ?_ ?_
        · rintro b a w' ⟨Ab, cb, Rr, An, cn, ha, hI⟩ hb_ hon hoff
          refine ⟨_, rfl, fun K hK => ?_⟩
          have q9 : a.tmps[42]? = some (.agg #[.int .i64 gg.env, .int .i64 gg.param, .slice Ab gg.body.len cb, .bool gg.body.last.v, .int .i64 gg.body.last.n]) := by rw [ha]; exact putSel_on (e := (9, 42, .agg #[.int .i64 gg.env, .int .i64 gg.param, .slice Ab gg.body.len cb, .bool gg.body.last.v, .int .i64 gg.body.last.n])) 9 rfl rfl (hon 9 (by kernel_rfl)) rfl
          replace ha := Lib.hid ha
          have HI := Lib.hid hI
          clear hI
          refine value_ (w1 := w'.alloc (.cells [.int .i64 gg.env, .int .i64 gg.param, .slice Ab gg.body.len cb, .bool gg.body.last.v, .int .i64 gg.body.last.n].toArray 42)) (v := .slice (some ⟨w'.heap.size, 0, none⟩) 1 1) (by rfl) rfl ?_ ?_
          · go_simp
            try rfl
          obtain ⟨hb0, hbo⟩ : Below V.heap.size V w' ∧ BodyOn (fun k => k < W.heap.size ∨ (V.heap.size ≤ k ∧ k < w'.heap.size)) w' (grouped gg.body) #[.slice Ab gg.body.len cb, .bool gg.body.last.v, .int .i64 gg.body.last.n] := HI.out.hold 2 (by show (b 8 && !b 10) = true; rw [hon 8 (by kernel_rfl), hb_]; try rfl)
          have hb2 : Below w'.heap.size w' (w'.alloc (.cells [.int .i64 gg.env, .int .i64 gg.param, .slice Ab gg.body.len cb, .bool gg.body.last.v, .int .i64 gg.body.last.n].toArray 42)) := (Below.refl _ _).alloc (Nat.le_refl _) _
          have hsS : (w'.alloc (.cells [.int .i64 gg.env, .int .i64 gg.param, .slice Ab gg.body.len cb, .bool gg.body.last.v, .int .i64 gg.body.last.n].toArray 42)).cell? ⟨w3.heap.size, 0, none⟩ = some (.slice Aq j cq) ∧ (w'.alloc (.cells [.int .i64 gg.env, .int .i64 gg.param, .slice Ab gg.body.len cb, .bool gg.body.last.v, .int .i64 gg.body.last.n].toArray 42)).cell? ⟨wo.heap.size, 0, none⟩ = some (.int .i64 gg.env) ∧ (w'.alloc (.cells [.int .i64 gg.env, .int .i64 gg.param, .slice Ab gg.body.len cb, .bool gg.body.last.v, .int .i64 gg.body.last.n].toArray 42)).cell? ⟨wo.heap.size, 1, none⟩ = some (.int .i64 gg.param) ∧ (w'.alloc (.cells [.int .i64 gg.env, .int .i64 gg.param, .slice Ab gg.body.len cb, .bool gg.body.last.v, .int .i64 gg.body.last.n].toArray 42)).cell? ⟨wo.heap.size, 2, none⟩ = some (.slice G0 gg.body.len g1) ∧ (w'.alloc (.cells [.int .i64 gg.env, .int .i64 gg.param, .slice Ab gg.body.len cb, .bool gg.body.last.v, .int .i64 gg.body.last.n].toArray 42)).cell? ⟨wo.heap.size, 3, none⟩ = some (.bool gg.body.last.v) ∧ (w'.alloc (.cells [.int .i64 gg.env, .int .i64 gg.param, .slice Ab gg.body.len cb, .bool gg.body.last.v, .int .i64 gg.body.last.n].toArray 42)).cell? ⟨wo.heap.size, 4, none⟩ = some (.int .i64 gg.body.last.n) := (by obtain ⟨s0, s1, s2, s3, s4, s5⟩ := (HI.out.hold 0 (by show (!b 13) = true; rw [hoff 13 (by kernel_rfl)]; try rfl) : w'.cell? ⟨w3.heap.size, 0, none⟩ = some (.slice Aq j cq) ∧ w'.cell? ⟨wo.heap.size, 0, none⟩ = some (.int .i64 gg.env) ∧ w'.cell? ⟨wo.heap.size, 1, none⟩ = some (.int .i64 gg.param) ∧ w'.cell? ⟨wo.heap.size, 2, none⟩ = some (.slice G0 gg.body.len g1) ∧ w'.cell? ⟨wo.heap.size, 3, none⟩ = some (.bool gg.body.last.v) ∧ w'.cell? ⟨wo.heap.size, 4, none⟩ = some (.int .i64 gg.body.last.n)); exact ⟨cell_behind hb2 s0, cell_behind hb2 s1, cell_behind hb2 s2, cell_behind hb2 s3, cell_behind hb2 s4, cell_behind hb2 s5⟩)
          have hbV := HBV.out
          have hbo2 := (hbo.kept (w' := w'.alloc (.cells [.int .i64 gg.env, .int .i64 gg.param, .slice Ab gg.body.len cb, .bool gg.body.last.v, .int .i64 gg.body.last.n].toArray 42)) (fun k hk => hb2.block k (by have := hb0.size; omega))).mono (G := fun k => k < W.heap.size ∨ (V.heap.size ≤ k ∧ k < (w'.alloc (.cells [.int .i64 gg.env, .int .i64 gg.param, .slice Ab gg.body.len cb, .bool gg.body.last.v, .int .i64 gg.body.last.n].toArray 42)).heap.size)) (fun k hk => hk.imp id (fun h => ⟨h.1, Nat.lt_of_lt_of_le h.2 hb2.size⟩))
          exact hK.out _ _ ⟨Ab, cb, w'.heap.size, An, cn, (by rw [ha.out]; exact putSel_upk 10 hb_ rfl rfl rfl), ⟨by intro j hj; have eb8 : up b 10 8 = b 8 := up_ne (by decide); have eb11 : up b 10 11 = b 11 := up_ne (by decide); have eb13 : up b 10 13 = b 13 := up_ne (by decide); have eb10 : up b 10 10 = true := up_self _ _; match j, hj with | 0, hj => exact hsS | 1, hj => (change (!up b 10 8) = true at hj; rw [eb8, hon 8 (by kernel_rfl)] at hj; simp at hj) | 2, hj => (change (up b 10 8 && !up b 10 10) = true at hj; rw [eb8, hon 8 (by kernel_rfl), eb10] at hj; simp at hj) | 3, hj => exact ⟨hb0.trans (hb2.mono hb0.size), hbo2, row_blk (World.alloc_heap_new _ _)⟩ | 4, hj => (change (up b 10 11 && !up b 10 13) = true at hj; rw [eb11, hoff 11 (by kernel_rfl), eb13, hoff 13 (by kernel_rfl)] at hj; simp at hj) | 5, hj => (change (up b 10 13) = true at hj; rw [eb13, hoff 13 (by kernel_rfl)] at hj; simp at hj) | j + 6, hj => simp at hj⟩⟩
        refine steps_cons ?_ ?_
        · rintro b a w' ⟨Ab, cb, Rr, An, cn, ha, hI⟩ hb_ hon hoff
          refine ⟨_, rfl, fun K hK => ?_⟩
          have q1 : a.tmps[34]? = some (.slice Aq j cq) := by rw [ha]; exact putSel_on (e := (1, 34, .slice Aq j cq)) 1 rfl rfl (hon 1 (by kernel_rfl)) rfl
          have q10 : a.tmps[43]? = some (.slice (some ⟨Rr, 0, none⟩) 1 1) := by rw [ha]; exact putSel_on (e := (10, 43, .slice (some ⟨Rr, 0, none⟩) 1 1)) 10 rfl rfl (hon 10 (by kernel_rfl)) rfl
          replace ha := Lib.hid ha
          have HI := Lib.hid hI
          clear hI
          rw [if_pos (by rfl)]
          obtain ⟨hb0, hbo, hrw⟩ : Below V.heap.size V w' ∧ BodyOn (fun k => k < W.heap.size ∨ (V.heap.size ≤ k ∧ k < w'.heap.size)) w' (grouped gg.body) #[.slice Ab gg.body.len cb, .bool gg.body.last.v, .int .i64 gg.body.last.n] ∧ RowI w' (some ⟨Rr, 0, none⟩) [Value.int .i64 gg.env, .int .i64 gg.param, .slice Ab gg.body.len cb, .bool gg.body.last.v, .int .i64 gg.body.last.n] := HI.out.hold 3 (by show (b 10 && !b 11) = true; rw [hon 10 (by kernel_rfl), hb_]; try rfl)
          have hbV := HBV.out
          have hown0 : w'.ownsRow (w3.heap.size + 1) 42 5 (.slice Aq j cq) j news := ownsRow_same HROW.out (fun k hk => hb0.block k (HLT.out k hk).1)
          refine wp_append_row _ _ _ 22 rfl (w3.heap.size + 1) 42 inf0 _ 5 56 Try.underlying22 hinf hz0 hz1 hz2 rfl (by decide) _ j news (by first | (simp only [Act.eval, Array.getD_eq_getD_getElem?, Option.getD_some, q1]; done) | (simp only [Act.eval, Array.getD_eq_getD_getElem?, Option.getD_some, q1]; rfl)) hown0 (some ⟨Rr, 0, none⟩) 1 1 [Value.int .i64 gg.env, .int .i64 gg.param, .slice Ab gg.body.len cb, .bool gg.body.last.v, .int .i64 gg.body.last.n] (by first | (simp only [Act.eval, Array.getD_eq_getD_getElem?, Option.getD_some, q10]; done) | (simp only [Act.eval, Array.getD_eq_getD_getElem?, Option.getD_some, q10]; rfl)) rfl hrw (by intro u hu; simp only [List.mem_cons, List.not_mem_nil, or_false] at hu; rcases hu with rfl | rfl | rfl | rfl | rfl <;> rfl) hml hmb (by have := hb0.size; have := HLX.out; omega) ?_
          intro v' w2 hown hgr hat
          obtain ⟨An_, cn_, rfl⟩ := own_slice hown
          have hsS : w2.cell? ⟨w3.heap.size, 0, none⟩ = some (.slice Aq j cq) ∧ w2.cell? ⟨wo.heap.size, 0, none⟩ = some (.int .i64 gg.env) ∧ w2.cell? ⟨wo.heap.size, 1, none⟩ = some (.int .i64 gg.param) ∧ w2.cell? ⟨wo.heap.size, 2, none⟩ = some (.slice G0 gg.body.len g1) ∧ w2.cell? ⟨wo.heap.size, 3, none⟩ = some (.bool gg.body.last.v) ∧ w2.cell? ⟨wo.heap.size, 4, none⟩ = some (.int .i64 gg.body.last.n) := (by obtain ⟨s0, s1, s2, s3, s4, s5⟩ := (HI.out.hold 0 (by show (!b 13) = true; rw [hoff 13 (by kernel_rfl)]; try rfl) : w'.cell? ⟨w3.heap.size, 0, none⟩ = some (.slice Aq j cq) ∧ w'.cell? ⟨wo.heap.size, 0, none⟩ = some (.int .i64 gg.env) ∧ w'.cell? ⟨wo.heap.size, 1, none⟩ = some (.int .i64 gg.param) ∧ w'.cell? ⟨wo.heap.size, 2, none⟩ = some (.slice G0 gg.body.len g1) ∧ w'.cell? ⟨wo.heap.size, 3, none⟩ = some (.bool gg.body.last.v) ∧ w'.cell? ⟨wo.heap.size, 4, none⟩ = some (.int .i64 gg.body.last.n)); have hx : ∀ X q, X < V.heap.size → (Value.slice Aq j cq).ownBlock ≠ some X → w2.cell? ⟨X, q, none⟩ = w'.cell? ⟨X, q, none⟩ := fun X q h1 h2 => cell_of_heap (hgr.block X (Nat.lt_of_lt_of_le h1 hb0.size) (fun e => h2 e.symm)) _; have h1 := HLX.out; have h2 := HLY.out; exact ⟨(hx _ _ (by omega) (fun e => by have := (HLT.out _ e).2; omega)).trans s0, (hx _ _ (by omega) (fun e => by have := (HLT.out _ e).2; omega)).trans s1, (hx _ _ (by omega) (fun e => by have := (HLT.out _ e).2; omega)).trans s2, (hx _ _ (by omega) (fun e => by have := (HLT.out _ e).2; omega)).trans s3, (hx _ _ (by omega) (fun e => by have := (HLT.out _ e).2; omega)).trans s4, (hx _ _ (by omega) (fun e => by have := (HLT.out _ e).2; omega)).trans s5⟩)
          exact hK.out _ _ ⟨Ab, cb, Rr, An_, cn_, (by rw [ha.out]; exact putSel_upk 11 hb_ rfl rfl rfl), ⟨by intro j hj; have eb8 : up b 11 8 = b 8 := up_ne (by decide); have eb10 : up b 11 10 = b 10 := up_ne (by decide); have eb13 : up b 11 13 = b 13 := up_ne (by decide); have eb11 : up b 11 11 = true := up_self _ _; match j, hj with | 0, hj => exact hsS | 1, hj => (change (!up b 11 8) = true at hj; rw [eb8, hon 8 (by kernel_rfl)] at hj; simp at hj) | 2, hj => (change (up b 11 8 && !up b 11 10) = true at hj; rw [eb8, hon 8 (by kernel_rfl), eb10, hon 10 (by kernel_rfl)] at hj; simp at hj) | 3, hj => (change (up b 11 10 && !up b 11 11) = true at hj; rw [eb10, hon 10 (by kernel_rfl), eb11] at hj; simp at hj) | 4, hj => exact AppR.of hb0 hbo hgr hown hat (fun q hq => by have := HLT.out q hq; have := HLX.out; omega) hbV | 5, hj => (change (up b 11 13) = true at hj; rw [eb13, hoff 13 (by kernel_rfl)] at hj; simp at hj) | j + 6, hj => simp at hj⟩⟩
        refine steps_cons ?_ ?_
        · rintro b a w' ⟨Ab, cb, Rr, An, cn, ha, hI⟩ hb_ hon hoff
          refine ⟨_, rfl, fun K hK => ?_⟩
          have m7 : a.tmps[7]? = some (.pointer (some ⟨w3.heap.size, 0, none⟩)) := by rw [ha]; exact (putSel_off rfl).trans rfl
          replace ha := Lib.hid ha
          have HI := Lib.hid hI
          clear hI
          refine value_ (w1 := w') (v := .pointer (some ⟨w3.heap.size, 0, none⟩)) (by rfl) rfl ?_ ?_
          · go_simp
            try rfl
          exact hK.out _ _ ⟨Ab, cb, Rr, An, cn, (by rw [ha.out]; exact putSel_upk 12 hb_ rfl rfl rfl), (by have h := HI.out; have eb8 : up b 12 8 = b 8 := up_ne (by decide); have eb10 : up b 12 10 = b 10 := up_ne (by decide); have eb11 : up b 12 11 = b 11 := up_ne (by decide); have eb13 : up b 12 13 = b 13 := up_ne (by decide); rw [eb8, eb10, eb11, eb13]; exact h)⟩
        refine steps_cons ?_ ?_
        · rintro b a w' ⟨Ab, cb, Rr, An, cn, ha, hI⟩ hb_ hon hoff
          refine ⟨_, rfl, fun K hK => ?_⟩
          have q11 : a.tmps[44]? = some (.slice An (j + 1) cn) := by rw [ha]; exact putSel_on (e := (11, 44, .slice An (j + 1) cn)) 11 rfl rfl (hon 11 (by kernel_rfl)) rfl
          have q12 : a.tmps[45]? = some (.pointer (some ⟨w3.heap.size, 0, none⟩)) := by rw [ha]; exact putSel_on (e := (12, 45, .pointer (some ⟨w3.heap.size, 0, none⟩))) 12 rfl rfl (hon 12 (by kernel_rfl)) rfl
          obtain ⟨s0, s1, s2, s3, s4, s5⟩ := (hI.hold 0 (by show (!b 13) = true; rw [hb_]; try rfl) : w'.cell? ⟨w3.heap.size, 0, none⟩ = some (.slice Aq j cq) ∧ w'.cell? ⟨wo.heap.size, 0, none⟩ = some (.int .i64 gg.env) ∧ w'.cell? ⟨wo.heap.size, 1, none⟩ = some (.int .i64 gg.param) ∧ w'.cell? ⟨wo.heap.size, 2, none⟩ = some (.slice G0 gg.body.len g1) ∧ w'.cell? ⟨wo.heap.size, 3, none⟩ = some (.bool gg.body.last.v) ∧ w'.cell? ⟨wo.heap.size, 4, none⟩ = some (.int .i64 gg.body.last.n))
          replace ha := Lib.hid ha
          have HI := Lib.hid hI
          clear hI
          have hap : AppR V W.heap.size w3.heap.size (.slice Aq j cq) (.slice An (j + 1) cn) j (news ++ [Value.int .i64 gg.env, .int .i64 gg.param, .slice Ab gg.body.len cb, .bool gg.body.last.v, .int .i64 gg.body.last.n]) (grouped gg.body) #[.slice Ab gg.body.len cb, .bool gg.body.last.v, .int .i64 gg.body.last.n] w' := HI.out.hold 4 (by show (b 11 && !b 13) = true; rw [hon 11 (by kernel_rfl), hb_]; try rfl)
          have hfz : w'.frozen? ⟨w3.heap.size, 0, none⟩ = false := by (have h := (hap.keep w3.heap.size (by have := HLX.out; omega) (fun e => by have := (HLT.out _ e).2; omega)).trans HX7.out; simp [World.frozen?, h])
          refine skip_ (w1 := w'.setCell ⟨w3.heap.size, 0, none⟩ (.slice An (j + 1) cn)) (by rfl) rfl ?_ ?_
          · go_simp
            try rfl
          exact hK.out _ _ ⟨Ab, cb, Rr, An, cn, (by rw [ha.out]; exact (putSel_skipY rfl).symm), ⟨by intro j hj; have eb8 : up b 13 8 = b 8 := up_ne (by decide); have eb10 : up b 13 10 = b 10 := up_ne (by decide); have eb11 : up b 13 11 = b 11 := up_ne (by decide); have eb13 : up b 13 13 = true := up_self _ _; match j, hj with | 0, hj => (change (!up b 13 13) = true at hj; rw [eb13] at hj; simp at hj) | 1, hj => (change (!up b 13 8) = true at hj; rw [eb8, hon 8 (by kernel_rfl)] at hj; simp at hj) | 2, hj => (change (up b 13 8 && !up b 13 10) = true at hj; rw [eb8, hon 8 (by kernel_rfl), eb10, hon 10 (by kernel_rfl)] at hj; simp at hj) | 3, hj => (change (up b 13 10 && !up b 13 11) = true at hj; rw [eb10, hon 10 (by kernel_rfl), eb11, hon 11 (by kernel_rfl)] at hj; simp at hj) | 4, hj => (change (up b 13 11 && !up b 13 13) = true at hj; rw [eb11, hon 11 (by kernel_rfl), eb13] at hj; simp at hj) | 5, hj => exact HMORE.out _ _ _ _ _ hap | j + 6, hj => simp at hj⟩⟩
        exact steps_nil
      rintro b a w' hall ⟨Ab, cb, Rr, An, cn, ha, hI⟩
      have hl : ∀ j, j ≤ 13 → b j = true := fun j hj => hall j (by
        have : j = 0 ∨ j = 1 ∨ j = 2 ∨ j = 3 ∨ j = 4 ∨ j = 5 ∨ j = 6 ∨ j = 7 ∨ j = 8 ∨ j = 9 ∨ j = 10 ∨ j = 11 ∨ j = 12 ∨ j = 13 := by omega
        rcases this with rfl | rfl | rfl | rfl | rfl | rfl | rfl | rfl | rfl | rfl | rfl | rfl | rfl | rfl <;> rfl)
      have b0 := hl 0 (by decide)
      have b1 := hl 1 (by decide)
      have b2 := hl 2 (by decide)
      have b3 := hl 3 (by decide)
      have b4 := hl 4 (by decide)
      have b5 := hl 5 (by decide)
      have b6 := hl 6 (by decide)
      have b7 := hl 7 (by decide)
      have b8 := hl 8 (by decide)
      have b9 := hl 9 (by decide)
      have b10 := hl 10 (by decide)
      have b11 := hl 11 (by decide)
      have b12 := hl 12 (by decide)
      have b13 := hl 13 (by decide)
      have f5 := (hI.hold 5 (by show (b 13) = true; rw [b13]; try rfl))
      clear hI
      subst ha
      simp only [putSel, b0, b1, b2, b3, b4, b5, b6, b7, b8, b9, b10, b11, b12, if_true, Act.put, List.setIfInBounds_toArray, List.set_cons_zero, List.set_cons_succ, Exit.then]
      have HN := Lib.hid f5
      clear f5
      go_wp2_with fail
      go_roundw
      case rel => exact ⟨j + 1, _, _, by omega, by go_num, HN⟩
      case measure => simp [intOf]; omega
    · have hjT : j = p.funs.length := by omega
      subst hjT
      have e2 : ¬ (p.funs.length : Int) < (p.funs.length : Int) := by omega
      obtain ⟨A9, c9, rfl, hfl⟩ := HJ.out.done HBM.out HB0X.out.1 (by omega)
      have HFL := Lib.hid hfl
      clear hfl
      go_wp2_with fail
      exact HT9.out _ _ _ _ _ _ _ HJW.out.2 HJ.out.h7 HFL.out _ _ _ _ _ _ _ _ _ _ _ _ _ _ _ _ _ _ _ _ _ _ _ _ _ _ _ _ _ _ _ _ _ _ _ _ _ _ _ _ _ _ _ _ _ _ _ _ _ _ _ _ _ _ _ _ _ _ _ _ _ _ _ _ _ _ _ _ _ _
end Go.Proofs.Ytnobggabjpcbfaa
