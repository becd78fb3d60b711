/-
 1 texts of this seat in one: FV50.
-/
import Derived.Test.YtnobggabjpcbfaaGreatQI47
set_option maxRecDepth 100000
set_option maxHeartbeats 16000000
set_option linter.unusedVariables false
set_option linter.unusedSimpArgs false
namespace Go.Proofs.YtnobggabjpcbfaaGreat
open Go.RowKit
noncomputable def fiR6 : Code := match Tryz.f4.body with
 | some (.seq _ (.seq _ (.seq _ (.seq _ (.seq c _))))) => c
 | _ => .skip
noncomputable def fiR7 : Code := match Tryz.f4.body with
 | some (.seq _ (.seq _ (.seq _ (.seq _ (.seq _ (.seq c _)))))) => c
 | _ => .skip
noncomputable def fiT7 : Code := match Tryz.f4.body with
 | some (.seq _ (.seq _ (.seq _ (.seq _ (.seq _ c))))) => c
 | _ => .skip
noncomputable def fiT8 : Code := match Tryz.f4.body with
 | some (.seq _ (.seq _ (.seq _ (.seq _ (.seq _ (.seq _ c)))))) => c
 | _ => .skip
theorem fi_tail8 {W V : World} (hb : Below W.heap.size W V) {X7 X8 : Nat} {pa pb : PEnd} (ha : EndAt V X7 pa) (hb2 : EndAt V X8 pb) (hsame : sameE pa pb = true ∧ pa.steps = pb.steps) (hkn : ∀ V2, Below V.heap.size V V2 → Calls Tryz.prog 6 #[] V2 (BoolBelow true V2)) (u0 u1 u2 u3 u4 u5 u6 u7 u8 u9 u12 u13 u14 u15 u16 u17 u18 u19 u20 u21 u22 u23 u24 u25 u26 u27 u28 u29 u30 u31 u32 u33 u34 u35 u36 u37 u38 u39 u40 u41 u42 u43 u44 u45 u46 u47 u48 u49 u50 u51 u52 u53 u54 u55 u56 u57 u58 u59 u60 u61 u62 u63 u64 u65 u66 u67 u68 u69 u70 : Value) :
 fiT8.wp Tryz.prog (bodyPost Tryz.prog Tryz.f4 (BoolBelow true W)) { tmps := #[u0, u1, u2, u3, u4, u5, u6, u7, u8, u9, .pointer (some ⟨X7, 0, none⟩), .pointer (some ⟨X8, 0, none⟩), u12, u13, u14, u15, u16, u17, u18, u19, u20, u21, u22, u23, u24, u25, u26, u27, u28, u29, u30, u31, u32, u33, u34, u35, u36, u37, u38, u39, u40, u41, u42, u43, u44, u45, u46, u47, u48, u49, u50, u51, u52, u53, u54, u55, u56, u57, u58, u59, u60, u61, u62, u63, u64, u65, u66, u67, u68, u69, u70], defers := [] } V := by
 obtain ⟨A, c, a0, a1, a2, a3, hia⟩ := endAt_cells ha
 obtain ⟨B, d, b0, b1, b2, b3, hib⟩ := endAt_cells hb2
 have HS1 := Lib.hid (same_any (v := .agg #[.int .i64 pa.kind, .int .i64 pa.n, .slice A pa.out.length c, .int .i64 pa.steps]) (u := .agg #[.int .i64 pb.kind, .int .i64 pb.n, .slice B pb.out.length d, .int .i64 pb.steps]) V ⟨A, c, rfl, hia⟩ ⟨B, d, rfl, hib⟩)
 rw [hsame.1] at HS1
 have HK := Lib.hid hkn
 have HB := Lib.hid hb
 have HC := Lib.hid (fun (V2 : World) (h : Below V.heap.size V V2) => (show V2.cell? ⟨X7, 3, none⟩ = some (.int .i64 pa.steps) ∧ V2.cell? ⟨X8, 3, none⟩ = some (.int .i64 pb.steps) from
  ⟨cell_behind h a3, cell_behind h b3⟩))
 have hst3 : ((pa.steps : Int) == (pb.steps : Int)) = true := by rw [hsame.2]; simp
 clear hia hib hb ha hb2 hsame hkn
 obtain ⟨Q, hQ⟩ : ∃ Q, (bodyPost Tryz.prog Tryz.f4 (BoolBelow true W)) = Q := ⟨_, rfl⟩
 have HQ := Lib.hid hQ
 rw [hQ]
 clear hQ
 unfold fiT8 Tryz.f4
 dsimp only
 go_wp2_with (first
  | (go_at_call 10; refine HS1.out.mono ?_; rintro en V2 ⟨rfl, hv2⟩; obtain ⟨q3, q4⟩ := HC.out _ hv2)
  | (go_at_call 6; refine (HK.out _ hv2).mono ?_; rintro en V4 ⟨rfl, hv4⟩))
 rw [← HQ.out]
 go_ret
 have h1 := HB.out.trans (hv2.mono HB.out.size)
 exact ⟨rfl, h1.trans (hv4.mono h1.size)⟩
theorem own_ints_ {w : World} {base n m c2 : Nat} {A2 : Option Addr} {pre more : List Int} (hn : pre.length = n) (hm : more.length = m) (h8 : (n + m) * 8 ≤ 140737488351232) (h : w.ownsRow base 3 1 (.slice A2 (n + m) c2) (n + m) (iv pre ++ iv more)) : IntsIn w.heap.size w A2 (pre ++ more) ∧ (pre ++ more).length ≤ c2 := by
 have hl : (pre ++ more).length = n + m := by simp [hn, hm]
 have hc : n + m ≤ c2 := by
  rcases h.2 with ⟨h1, h2⟩ | ⟨g, cap, cur, hv, -, -, hnc, -⟩
  · simp only [Value.slice.injEq] at h1; omega
  · simp only [Value.slice.injEq] at hv; omega
 refine ⟨⟨by rw [hl]; exact h8, ?_⟩, by rw [hl]; exact hc⟩
 rcases Nat.eq_zero_or_pos (n + m) with h0 | h0
 · exact .inl (List.eq_nil_of_length_eq_zero (by rw [hl]; exact h0))
 · obtain ⟨g, cap, hv, -, -, -, hlt, hcell⟩ := own_cell h h0
   simp only [Value.slice.injEq] at hv
   obtain ⟨rfl, -, -⟩ := hv
   refine .inr ⟨g, 0, rfl, hlt, fun j hj => ?_⟩
   have e1 : iv pre ++ iv more = iv (pre ++ more) := by simp [iv]
   rw [e1] at hcell
   refine hcell j _ ?_
   rw [List.getElem?_map, List.getElem?_eq_getElem hj, nth_eq _ hj]
   rfl
open Go.Proofs.YtnobggabjpcbfaaGreatW.PrintWords Go.Proofs.YtnobggabjpcbfaaGreatW.PrintLast in
theorem fi_run7 {W V : World} (hb : Below W.heap.size W V) {X7 : Nat} {X4 L ci n m cm p2 p3 e2 e3 : Nat} {Ai Am P2 P3 : Option Addr} {p4 : Bool} {p5 f sf : Int} {pa pe : PEnd} {pre more : List Int} (hnp : pre.length = n) (hlm : more.length = m) (hn : n ≤ 60) (hm : m ≤ 60) (hnc : n ≤ ci) (hsame : sameE pa pe = true ∧ pa.steps = pe.steps)
 (hS : ∀ V2, Below V.heap.size V V2 → V2.cell? ⟨X4, 0, none⟩ = some (.slice P2 p2 e2) ∧ V2.cell? ⟨X4, 1, none⟩ = some (.slice P3 p3 e3) ∧ V2.cell? ⟨X4, 2, none⟩ = some (.bool p4) ∧ V2.cell? ⟨X4, 3, none⟩ = some (.int .i64 p5))
 (hsh : ∀ V2, Calls Tryz.prog 8 #[.int .i64 f] V2 fun e w' => e = .returned (.int .i64 sf) ∧ V2 = w')
 (hpre : ∀ V2, Below V.heap.size V V2 → RowI V2 Ai (iv pre)) (hmore : ∀ V2, Below V.heap.size V V2 → RowI V2 Am (iv more))
 (hrb : ∀ V2 A2 c2, Below V.heap.size V V2 → IntsIn V2.heap.size V2 A2 (pre ++ more) → (pre ++ more).length ≤ c2 → Calls Tryz.prog 7 #[.agg #[.slice P2 p2 e2, .slice P3 p3 e3, .bool p4, .int .i64 p5], .slice A2 (pre ++ more).length c2, .int .i64 sf] V2 (RunPost pe V2)) (ha : EndAt V X7 pa)
 (hkn : ∀ V2, Below V.heap.size V V2 → Calls Tryz.prog 6 #[] V2 (BoolBelow true V2)) (u0 u5 u6 u7 u8 u11 u12 u13 u14 u15 u16 u17 u18 u19 u20 u21 u22 u23 u24 u25 u26 u27 u28 u29 u30 u31 u32 u33 u34 u35 u36 u37 u38 u39 u40 u41 u42 u43 u44 u45 u46 u47 u48 u49 u50 u51 u52 u53 u54 u55 u56 u57 u58 u59 u60 u61 u62 u63 u64 u65 u66 u67 u68 u69 u70 : Value) :
 ∀ K : Act → World → Prop, (∀ a w, fiT8.wp Tryz.prog (bodyPost Tryz.prog Tryz.f4 (BoolBelow true W)) a w → K a w) → fiR7.wp Tryz.prog (Exit.then K (bodyPost Tryz.prog Tryz.f4 (BoolBelow true W))) { tmps := #[u0, .slice Ai L ci, .slice Am m cm, .int .i64 f, .pointer (some ⟨X4, 0, none⟩), u5, u6, u7, u8, .int .i64 (n : Int), .pointer (some ⟨X7, 0, none⟩), u11, u12, u13, u14, u15, u16, u17, u18, u19, u20, u21, u22, u23, u24, u25, u26, u27, u28, u29, u30, u31, u32, u33, u34, u35, u36, u37, u38, u39, u40, u41, u42, u43, u44, u45, u46, u47, u48, u49, u50, u51, u52, u53, u54, u55, u56, u57, u58, u59, u60, u61, u62, u63, u64, u65, u66, u67, u68, u69, u70], defers := [] } V := by
 intro K hK0
 have HK0 := Lib.hid hK0
 clear hK0
 have h88 : (n + m) * 8 ≤ 140737488351232 := by omega
 have hl1 : (iv pre).length = n * 1 := by simp [iv, hnp]
 have hl2 : (iv more).length = m * 1 := by simp [iv, hlm]
 obtain ⟨inf0, hinf, hz0, hz1, hz2⟩ := info_parts infoI
 have HEND := Lib.hid (fun (V2 : World) (X8 : Nat) (hv : Below V.heap.size V V2) (he : EndAt V2 X8 pe) (y0 y1 y2 y3 y4 y5 y6 y7 y8 y9 y12 y13 y14 y15 y16 y17 y18 y19 y20 y21 y22 y23 y24 y25 y26 y27 y28 y29 y30 y31 y32 y33 y34 y35 y36 y37 y38 y39 y40 y41 y42 y43 y44 y45 y46 y47 y48 y49 y50 y51 y52 y53 y54 y55 y56 y57 y58 y59 y60 y61 y62 y63 y64 y65 y66 y67 y68 y69 y70 : Value) =>
  (show fiT8.wp Tryz.prog (bodyPost Tryz.prog Tryz.f4 (BoolBelow true W)) { tmps := #[y0, y1, y2, y3, y4, y5, y6, y7, y8, y9, .pointer (some ⟨X7, 0, none⟩), .pointer (some ⟨X8, 0, none⟩), y12, y13, y14, y15, y16, y17, y18, y19, y20, y21, y22, y23, y24, y25, y26, y27, y28, y29, y30, y31, y32, y33, y34, y35, y36, y37, y38, y39, y40, y41, y42, y43, y44, y45, y46, y47, y48, y49, y50, y51, y52, y53, y54, y55, y56, y57, y58, y59, y60, y61, y62, y63, y64, y65, y66, y67, y68, y69, y70], defers := [] } V2 from by
   obtain ⟨A9, c9, h9, hi9⟩ := ha
   exact fi_tail8 (hb.trans (hv.mono hb.size)) ⟨A9, c9, (hv.block _ (heap_lt h9)).trans h9, (hi9.below hv).mono hv.size⟩ he hsame (fun V3 h3 => hkn V3 (hv.trans (h3.mono hv.size))) _ _ _ _ _ _ _ _ _ _ _ _ _ _ _ _ _ _ _ _ _ _ _ _ _ _ _ _ _ _ _ _ _ _ _ _ _ _ _ _ _ _ _ _ _ _ _ _ _ _ _ _ _ _ _ _ _ _ _ _ _ _ _ _ _ _ _ _ _))
 have HS := Lib.hid hS
 have HSH := Lib.hid hsh
 have HRB := Lib.hid hrb
 have hal : (pre ++ more).length = n + m := by simp [hnp, hlm]
 have HRB2 := Lib.hid (fun (V2 : World) (A2 : Option Addr) (c2 : Nat) (h : Below V.heap.size V V2) (hi : IntsIn V2.heap.size V2 A2 (pre ++ more)) (hc : (pre ++ more).length ≤ c2) => (show Calls Tryz.prog 7 #[.agg #[.slice P2 p2 e2, .slice P3 p3 e3, .bool p4, .int .i64 p5], .slice A2 (n + m) c2, .int .i64 sf] V2 (RunPost pe V2) from by
  have := HRB.out V2 A2 c2 h hi hc
  rwa [hal] at this))
 have HPRE := Lib.hid hpre
 have HMORE := Lib.hid hmore
 have D0 := Lib.hid (show Below V.heap.size V V.drew from (Below.refl _ _).drew)
 have hn0 : (0 : Int) ≤ (n : Int) := by omega
 have hnc2 : (n : Int) ≤ (ci : Int) := by omega
 clear hS hrb hb hsh hsame ha hpre hmore hkn HRB hal
 unfold fiR7 Tryz.f4
 dsimp only
 refine start_ (n := 13) (S := fun w' => True) (ds := []) #[false, false, false, false, false, false, false, false, false, false, false, false, false] (by kernel_rfl) rfl rfl trivial (fun hHeld => ?_)
 clear hHeld
 refine inv_at (B := [0, 0, 0, 0, 12, 30, 0, 126, 0, 510, 1023, 0, 4095]) [0, 1, 2, 3, 4, 5, 6, 7, 8, 9, 10, 11, 12] (fun a0_ b a w' => ∃ vE v1 A2 c2 A c X, a = putSel a0_ b [(0, 47, .agg #[.slice P2 p2 e2, .slice P3 p3 e3, .bool p4, .int .i64 p5]), (1, 48, vE), (2, 49, .slice Ai L ci), (3, 50, .int .i64 (n : Int)), (4, 51, .slice Ai n ci), (5, 52, v1), (6, 53, .slice Am m cm), (7, 54, .slice A2 (n + m) c2), (8, 55, .int .i64 f), (9, 56, .int .i64 sf), (10, 57, .agg #[.int .i64 pe.kind, .int .i64 pe.n, .slice A pe.out.length c, .int .i64 pe.steps]), (11, 11, .pointer (some ⟨X, 0, none⟩))] ∧ Reg V [(b 1 && !b 5), (b 5 && !b 7), (b 7), (b 10), (b 11 && !b 12), (b 12)] [ownFa V.heap.size 3 1 vE 0 [], ownFa V.heap.size 3 1 v1 n (iv pre), ownFa V.heap.size 3 1 (.slice A2 (n + m) c2) (n + m) (iv pre ++ iv more), intsFa A pe.out, blkFa X zeroC, blkFa X (endC pe A c)] w') rfl (by kernel_rfl) (by kernel_rfl) (by kernel_rfl) ?_ ?_ ?_
 · exact ⟨.bool false, .bool false, none, 0, none, 0, 0, by simp only [putSel, Bool.false_eq_true, if_false], Reg.start D0.out (fun i => by match i with | 0 => rfl | 1 => rfl | 2 => rfl | 3 => rfl | 4 => rfl | 5 => rfl | i + 6 => simp)⟩
 · skip
   refine steps_cons ?_ ?_
   · rintro b a w' ⟨vE, v1, A2, c2, A, c, X, ha, hI⟩ hb_ hon hoff
     refine ⟨_, rfl, fun K hK => ?_⟩
     have m4 : a.tmps[4]? = some (.pointer (some ⟨X4, 0, none⟩)) := by rw [ha]; exact (putSel_off rfl).trans rfl
     obtain ⟨z0, z1, z2, z3⟩ := HS.out w' hI.bel
     replace ha := Lib.hid ha
     have HI := Lib.hid hI
     clear hI
     refine value_ (w1 := w') (v := .agg #[.slice P2 p2 e2, .slice P3 p3 e3, .bool p4, .int .i64 p5]) (by rfl) rfl ?_ ?_
     · go_simp
       try rfl
     exact hK.out _ _ ⟨vE, v1, A2, c2, A, c, X, (by rw [ha.out]; exact putSel_upk 0 hb_ rfl rfl rfl), (by have h := HI.out; have eb1 : up b 0 1 = b 1 := up_ne (by decide); have eb5 : up b 0 5 = b 5 := up_ne (by decide); have eb7 : up b 0 7 = b 7 := up_ne (by decide); have eb10 : up b 0 10 = b 10 := up_ne (by decide); have eb11 : up b 0 11 = b 11 := up_ne (by decide); have eb12 : up b 0 12 = b 12 := up_ne (by decide); rw [eb1, eb5, eb7, eb10, eb11, eb12]; exact h)⟩
   refine steps_cons ?_ ?_
   · rintro b a w' ⟨vE, v1, A2, c2, A, c, X, ha, hI⟩ hb_ hon hoff
     refine ⟨_, rfl, fun K hK => ?_⟩
     replace ha := Lib.hid ha
     have HI := Lib.hid hI
     clear hI
     refine value_ (w1 := w'.alloc (.cells #[] 3)) (v := .slice (some ⟨w'.heap.size, 0, none⟩) 0 0) (by rfl) rfl ?_ ?_
     · go_simp
       try rfl
     exact hK.out _ _ ⟨.slice (some ⟨w'.heap.size, 0, none⟩) 0 0, v1, A2, c2, A, c, X, (by rw [ha.out]; exact putSel_upk 1 hb_ rfl rfl rfl), HI.out.row0 0 rfl (by intro j hj hc; have eb5 : up b 1 5 = b 5 := up_ne (by decide); have eb7 : up b 1 7 = b 7 := up_ne (by decide); have eb10 : up b 1 10 = b 10 := up_ne (by decide); have eb11 : up b 1 11 = b 11 := up_ne (by decide); have eb12 : up b 1 12 = b 12 := up_ne (by decide); have eb1 : up b 1 1 = true := up_self _ _; match j, hj, hc with | 0, hj, hc => exact absurd rfl hj | 1, hj, hc => (change (up b 1 5 && !up b 1 7) = true at hc; rw [eb5, eb7, hoff 5 (by kernel_rfl)] at hc; simp at hc) | 2, hj, hc => (change (up b 1 7) = true at hc; rw [eb7, hoff 7 (by kernel_rfl)] at hc; simp at hc) | 3, hj, hc => (change (up b 1 10) = true at hc; rw [eb10, hoff 10 (by kernel_rfl)] at hc; simp at hc) | 4, hj, hc => (change (up b 1 11 && !up b 1 12) = true at hc; rw [eb11, eb12] at hc; exact ⟨hc, rfl⟩) | 5, hj, hc => (change (up b 1 12) = true at hc; rw [eb12, hoff 12 (by kernel_rfl)] at hc; simp at hc) | j + 6, hj, hc => simp at hc)⟩
   refine steps_cons ?_ ?_
   · rintro b a w' ⟨vE, v1, A2, c2, A, c, X, ha, hI⟩ hb_ hon hoff
     refine ⟨_, rfl, fun K hK => ?_⟩
     have m1 : a.tmps[1]? = some (.slice Ai L ci) := by rw [ha]; exact (putSel_off rfl).trans rfl
     replace ha := Lib.hid ha
     have HI := Lib.hid hI
     clear hI
     refine value_ (w1 := w') (v := .slice Ai L ci) (by rfl) rfl ?_ ?_
     · go_simp
       try rfl
     exact hK.out _ _ ⟨vE, v1, A2, c2, A, c, X, (by rw [ha.out]; exact putSel_upk 2 hb_ rfl rfl rfl), (by have h := HI.out; have eb1 : up b 2 1 = b 1 := up_ne (by decide); have eb5 : up b 2 5 = b 5 := up_ne (by decide); have eb7 : up b 2 7 = b 7 := up_ne (by decide); have eb10 : up b 2 10 = b 10 := up_ne (by decide); have eb11 : up b 2 11 = b 11 := up_ne (by decide); have eb12 : up b 2 12 = b 12 := up_ne (by decide); rw [eb1, eb5, eb7, eb10, eb11, eb12]; exact h)⟩
   refine steps_cons ?_ ?_
   · rintro b a w' ⟨vE, v1, A2, c2, A, c, X, ha, hI⟩ hb_ hon hoff
     refine ⟨_, rfl, fun K hK => ?_⟩
     have m9 : a.tmps[9]? = some (.int .i64 (n : Int)) := by rw [ha]; exact (putSel_off rfl).trans rfl
     replace ha := Lib.hid ha
     have HI := Lib.hid hI
     clear hI
     refine value_ (w1 := w') (v := .int .i64 (n : Int)) (by rfl) rfl ?_ ?_
     · go_simp
       try rfl
     exact hK.out _ _ ⟨vE, v1, A2, c2, A, c, X, (by rw [ha.out]; exact putSel_upk 3 hb_ rfl rfl rfl), (by have h := HI.out; have eb1 : up b 3 1 = b 1 := up_ne (by decide); have eb5 : up b 3 5 = b 5 := up_ne (by decide); have eb7 : up b 3 7 = b 7 := up_ne (by decide); have eb10 : up b 3 10 = b 10 := up_ne (by decide); have eb11 : up b 3 11 = b 11 := up_ne (by decide); have eb12 : up b 3 12 = b 12 := up_ne (by decide); rw [eb1, eb5, eb7, eb10, eb11, eb12]; exact h)⟩
   refine steps_cons ?_ ?_
   · rintro b a w' ⟨vE, v1, A2, c2, A, c, X, ha, hI⟩ hb_ hon hoff
     refine ⟨_, rfl, fun K hK => ?_⟩
     have e2_ : a.tmps[49]? = some (.slice Ai L ci) := by rw [ha]; exact putSel_on (e := (2, 49, .slice Ai L ci)) 2 rfl rfl (hon 2 (by kernel_rfl)) rfl
     have e3_ : a.tmps[50]? = some (.int .i64 (n : Int)) := by rw [ha]; exact putSel_on (e := (3, 50, .int .i64 (n : Int))) 3 rfl rfl (hon 3 (by kernel_rfl)) rfl
     replace ha := Lib.hid ha
     have HI := Lib.hid hI
     clear hI
     refine value_ (w1 := w') (v := .slice Ai n ci) (by rfl) rfl ?_ ?_
     · go_simp
       try rfl
     exact hK.out _ _ ⟨vE, v1, A2, c2, A, c, X, (by rw [ha.out]; exact putSel_upk 4 hb_ rfl rfl rfl), (by have h := HI.out; have eb1 : up b 4 1 = b 1 := up_ne (by decide); have eb5 : up b 4 5 = b 5 := up_ne (by decide); have eb7 : up b 4 7 = b 7 := up_ne (by decide); have eb10 : up b 4 10 = b 10 := up_ne (by decide); have eb11 : up b 4 11 = b 11 := up_ne (by decide); have eb12 : up b 4 12 = b 12 := up_ne (by decide); rw [eb1, eb5, eb7, eb10, eb11, eb12]; exact h)⟩
   refine steps_cons ?_ ?_
   · rintro b a w' ⟨vE, v1, A2, c2, A, c, X, ha, hI⟩ hb_ hon hoff
     refine ⟨_, rfl, fun K hK => ?_⟩
     have e1_ : a.tmps[48]? = some (vE) := by rw [ha]; exact putSel_on (e := (1, 48, vE)) 1 rfl rfl (hon 1 (by kernel_rfl)) rfl
     have e4_ : a.tmps[51]? = some (.slice Ai n ci) := by rw [ha]; exact putSel_on (e := (4, 51, .slice Ai n ci)) 4 rfl rfl (hon 4 (by kernel_rfl)) rfl
     replace ha := Lib.hid ha
     have HI := Lib.hid hI
     clear hI
     rw [if_pos (by rfl)]
     refine wp_append_row _ _ _ 30 rfl V.heap.size 3 inf0 _ 1 8 Tryz.underlying30 hinf hz0 hz1 hz2 rfl (by decide) _ (0) ([]) (by first | (simp only [Act.eval, Array.getD_eq_getD_getElem?, Option.getD_some, e1_]; done) | (simp only [Act.eval, Array.getD_eq_getD_getElem?, Option.getD_some, e1_]; rfl)) ((HI.out.hold 0 (by show (b 1 && !b 5) = true; rw [hon 1 (by kernel_rfl), hb_]; try rfl)).1) (Ai) (n) (ci) (iv pre) (by first | (simp only [Act.eval, Array.getD_eq_getD_getElem?, Option.getD_some, e4_]; done) | (simp only [Act.eval, Array.getD_eq_getD_getElem?, Option.getD_some, e4_]; rfl)) hl1 (HPRE.out _ HI.out.bel) (iv_one _) (by simp only [maxLen]; omega) (by omega) HI.out.bel.size ?_
     intro v' w2 hown hgr hat
     have hown' := own_size_ (m := n) (ys := iv pre) (by omega) (by simp) hown
     exact hK.out _ _ ⟨vE, v', A2, c2, A, c, X, (by rw [ha.out]; exact putSel_upk 5 hb_ rfl rfl rfl), HI.out.app 0 1 (by show (b 1 && !b 5) = true; rw [hon 1 (by kernel_rfl), hb_]; try rfl) rfl hgr rfl hown' hat (by intro j hj hc; have eb1 : up b 5 1 = b 1 := up_ne (by decide); have eb7 : up b 5 7 = b 7 := up_ne (by decide); have eb10 : up b 5 10 = b 10 := up_ne (by decide); have eb11 : up b 5 11 = b 11 := up_ne (by decide); have eb12 : up b 5 12 = b 12 := up_ne (by decide); have eb5 : up b 5 5 = true := up_self _ _; match j, hj, hc with | 0, hj, hc => (change (up b 5 1 && !up b 5 5) = true at hc; rw [eb1, eb5] at hc; simp at hc) | 1, hj, hc => exact absurd rfl hj | 2, hj, hc => (change (up b 5 7) = true at hc; rw [eb7, hoff 7 (by kernel_rfl)] at hc; simp at hc) | 3, hj, hc => (change (up b 5 10) = true at hc; rw [eb10, hoff 10 (by kernel_rfl)] at hc; simp at hc) | 4, hj, hc => (change (up b 5 11 && !up b 5 12) = true at hc; rw [eb11, eb12] at hc; exact ⟨hc, rfl, by decide⟩) | 5, hj, hc => (change (up b 5 12) = true at hc; rw [eb12, hoff 12 (by kernel_rfl)] at hc; simp at hc) | j + 6, hj, hc => simp at hc)⟩
   refine steps_cons ?_ ?_
   · rintro b a w' ⟨vE, v1, A2, c2, A, c, X, ha, hI⟩ hb_ hon hoff
     refine ⟨_, rfl, fun K hK => ?_⟩
     have m2 : a.tmps[2]? = some (.slice Am m cm) := by rw [ha]; exact (putSel_off rfl).trans rfl
     replace ha := Lib.hid ha
     have HI := Lib.hid hI
     clear hI
     refine value_ (w1 := w') (v := .slice Am m cm) (by rfl) rfl ?_ ?_
     · go_simp
       try rfl
     exact hK.out _ _ ⟨vE, v1, A2, c2, A, c, X, (by rw [ha.out]; exact putSel_upk 6 hb_ rfl rfl rfl), (by have h := HI.out; have eb1 : up b 6 1 = b 1 := up_ne (by decide); have eb5 : up b 6 5 = b 5 := up_ne (by decide); have eb7 : up b 6 7 = b 7 := up_ne (by decide); have eb10 : up b 6 10 = b 10 := up_ne (by decide); have eb11 : up b 6 11 = b 11 := up_ne (by decide); have eb12 : up b 6 12 = b 12 := up_ne (by decide); rw [eb1, eb5, eb7, eb10, eb11, eb12]; exact h)⟩
   refine steps_cons ?_ ?_
   · rintro b a w' ⟨vE, v1, A2, c2, A, c, X, ha, hI⟩ hb_ hon hoff
     refine ⟨_, rfl, fun K hK => ?_⟩
     have e5_ : a.tmps[52]? = some (v1) := by rw [ha]; exact putSel_on (e := (5, 52, v1)) 5 rfl rfl (hon 5 (by kernel_rfl)) rfl
     have e6_ : a.tmps[53]? = some (.slice Am m cm) := by rw [ha]; exact putSel_on (e := (6, 53, .slice Am m cm)) 6 rfl rfl (hon 6 (by kernel_rfl)) rfl
     replace ha := Lib.hid ha
     have HI := Lib.hid hI
     clear hI
     rw [if_pos (by rfl)]
     refine wp_append_row _ _ _ 30 rfl V.heap.size 3 inf0 _ 1 8 Tryz.underlying30 hinf hz0 hz1 hz2 rfl (by decide) _ (n) (iv pre) (by first | (simp only [Act.eval, Array.getD_eq_getD_getElem?, Option.getD_some, e5_]; done) | (simp only [Act.eval, Array.getD_eq_getD_getElem?, Option.getD_some, e5_]; rfl)) ((HI.out.hold 1 (by show (b 5 && !b 7) = true; rw [hon 5 (by kernel_rfl), hb_]; try rfl)).1) (Am) (m) (cm) (iv more) (by first | (simp only [Act.eval, Array.getD_eq_getD_getElem?, Option.getD_some, e6_]; done) | (simp only [Act.eval, Array.getD_eq_getD_getElem?, Option.getD_some, e6_]; rfl)) hl2 (HMORE.out _ HI.out.bel) (iv_one _) (by simp only [maxLen]; omega) (by omega) HI.out.bel.size ?_
     intro v' w2 hown hgr hat
     have hown' := own_size_ (m := n + m) (ys := iv pre ++ iv more) rfl rfl hown
     obtain ⟨A_, c_, rfl⟩ := own_slice hown'
     exact hK.out _ _ ⟨vE, v1, A_, c_, A, c, X, (by rw [ha.out]; exact putSel_upk 7 hb_ rfl rfl rfl), HI.out.app 1 2 (by show (b 5 && !b 7) = true; rw [hon 5 (by kernel_rfl), hb_]; try rfl) rfl hgr rfl hown' hat (by intro j hj hc; have eb1 : up b 7 1 = b 1 := up_ne (by decide); have eb5 : up b 7 5 = b 5 := up_ne (by decide); have eb10 : up b 7 10 = b 10 := up_ne (by decide); have eb11 : up b 7 11 = b 11 := up_ne (by decide); have eb12 : up b 7 12 = b 12 := up_ne (by decide); have eb7 : up b 7 7 = true := up_self _ _; match j, hj, hc with | 0, hj, hc => (change (up b 7 1 && !up b 7 5) = true at hc; rw [eb1, eb5] at hc; exact ⟨hc, rfl, by decide⟩) | 1, hj, hc => (change (up b 7 5 && !up b 7 7) = true at hc; rw [eb5, eb7] at hc; simp at hc) | 2, hj, hc => exact absurd rfl hj | 3, hj, hc => (change (up b 7 10) = true at hc; rw [eb10, hoff 10 (by kernel_rfl)] at hc; simp at hc) | 4, hj, hc => (change (up b 7 11 && !up b 7 12) = true at hc; rw [eb11, eb12] at hc; exact ⟨hc, rfl, by decide⟩) | 5, hj, hc => (change (up b 7 12) = true at hc; rw [eb12, hoff 12 (by kernel_rfl)] at hc; simp at hc) | j + 6, hj, hc => simp at hc)⟩
   refine steps_cons ?_ ?_
   · rintro b a w' ⟨vE, v1, A2, c2, A, c, X, ha, hI⟩ hb_ hon hoff
     refine ⟨_, rfl, fun K hK => ?_⟩
     have m3 : a.tmps[3]? = some (.int .i64 f) := by rw [ha]; exact (putSel_off rfl).trans rfl
     replace ha := Lib.hid ha
     have HI := Lib.hid hI
     clear hI
     refine value_ (w1 := w') (v := .int .i64 f) (by rfl) rfl ?_ ?_
     · go_simp
       try rfl
     exact hK.out _ _ ⟨vE, v1, A2, c2, A, c, X, (by rw [ha.out]; exact putSel_upk 8 hb_ rfl rfl rfl), (by have h := HI.out; have eb1 : up b 8 1 = b 1 := up_ne (by decide); have eb5 : up b 8 5 = b 5 := up_ne (by decide); have eb7 : up b 8 7 = b 7 := up_ne (by decide); have eb10 : up b 8 10 = b 10 := up_ne (by decide); have eb11 : up b 8 11 = b 11 := up_ne (by decide); have eb12 : up b 8 12 = b 12 := up_ne (by decide); rw [eb1, eb5, eb7, eb10, eb11, eb12]; exact h)⟩
   refine steps_cons ?_ ?_
   · rintro b a w' ⟨vE, v1, A2, c2, A, c, X, ha, hI⟩ hb_ hon hoff
     refine ⟨_, rfl, fun K hK => ?_⟩
     have e8_ : a.tmps[55]? = some (.int .i64 f) := by rw [ha]; exact putSel_on (e := (8, 55, .int .i64 f)) 8 rfl rfl (hon 8 (by kernel_rfl)) rfl
     replace ha := Lib.hid ha
     have HI := Lib.hid hI
     clear hI
     refine goes_ Tryz.func8 (by kernel_rfl) rfl #[.int .i64 f] (by rfl) rfl rfl (by first | (simp only [List.map_toArray, List.map_cons, List.map_nil, Act.eval, Array.getD_eq_getD_getElem?, Option.getD_some, e8_]; done) | (simp only [List.map_toArray, List.map_cons, List.map_nil, Act.eval, Array.getD_eq_getD_getElem?, Option.getD_some, e8_]; rfl)) ?_
     refine (HSH.out w').mono ?_
     rintro e w2 ⟨rfl, rfl⟩
     exact ⟨_, rfl, hK.out _ _ ⟨vE, v1, A2, c2, A, c, X, (by rw [ha.out]; exact putSel_upk 9 hb_ rfl rfl rfl), (by have h := HI.out; have eb1 : up b 9 1 = b 1 := up_ne (by decide); have eb5 : up b 9 5 = b 5 := up_ne (by decide); have eb7 : up b 9 7 = b 7 := up_ne (by decide); have eb10 : up b 9 10 = b 10 := up_ne (by decide); have eb11 : up b 9 11 = b 11 := up_ne (by decide); have eb12 : up b 9 12 = b 12 := up_ne (by decide); rw [eb1, eb5, eb7, eb10, eb11, eb12]; exact h)⟩⟩
   refine steps_cons ?_ ?_
   · rintro b a w' ⟨vE, v1, A2, c2, A, c, X, ha, hI⟩ hb_ hon hoff
     refine ⟨_, rfl, fun K hK => ?_⟩
     have e0_ : a.tmps[47]? = some (.agg #[.slice P2 p2 e2, .slice P3 p3 e3, .bool p4, .int .i64 p5]) := by rw [ha]; exact putSel_on (e := (0, 47, .agg #[.slice P2 p2 e2, .slice P3 p3 e3, .bool p4, .int .i64 p5])) 0 rfl rfl (hon 0 (by kernel_rfl)) rfl
     have e7_ : a.tmps[54]? = some (.slice A2 (n + m) c2) := by rw [ha]; exact putSel_on (e := (7, 54, .slice A2 (n + m) c2)) 7 rfl rfl (hon 7 (by kernel_rfl)) rfl
     have e9_ : a.tmps[56]? = some (.int .i64 sf) := by rw [ha]; exact putSel_on (e := (9, 56, .int .i64 sf)) 9 rfl rfl (hon 9 (by kernel_rfl)) rfl
     obtain ⟨hi2, hc2⟩ := own_ints_ hnp hlm h88 ((hI.hold 2 (by show (b 7) = true; rw [hon 7 (by kernel_rfl)]; try rfl)).1)
     replace ha := Lib.hid ha
     have HI := Lib.hid hI
     clear hI
     refine goes_ Tryz.func7 (by kernel_rfl) rfl #[.agg #[.slice P2 p2 e2, .slice P3 p3 e3, .bool p4, .int .i64 p5], .slice A2 (n + m) c2, .int .i64 sf] (by rfl) rfl rfl (by first | (simp only [List.map_toArray, List.map_cons, List.map_nil, Act.eval, Array.getD_eq_getD_getElem?, Option.getD_some, e0_, e7_, e9_]; done) | (simp only [List.map_toArray, List.map_cons, List.map_nil, Act.eval, Array.getD_eq_getD_getElem?, Option.getD_some, e0_, e7_, e9_]; rfl)) ?_
     refine (HRB2.out w' A2 c2 HI.out.bel hi2 hc2).mono ?_
     rintro e w2 ⟨v, A_, c_, rfl, rfl, hE, hb2, hlo⟩
     obtain ⟨A', c', heq, hi⟩ := hE
     simp only [Value.agg.injEq, Array.mk.injEq, List.cons.injEq, Value.slice.injEq, true_and, and_true] at heq
     obtain ⟨rfl, rfl⟩ := heq
     exact ⟨_, rfl, hK.out _ _ ⟨vE, v1, A2, c2, A_, c_, X, (by rw [ha.out]; exact putSel_upk 10 hb_ rfl rfl rfl), HI.out.ints 3 hb2 rfl hi hlo (by intro j hj hc; have eb1 : up b 10 1 = b 1 := up_ne (by decide); have eb5 : up b 10 5 = b 5 := up_ne (by decide); have eb7 : up b 10 7 = b 7 := up_ne (by decide); have eb11 : up b 10 11 = b 11 := up_ne (by decide); have eb12 : up b 10 12 = b 12 := up_ne (by decide); have eb10 : up b 10 10 = true := up_self _ _; match j, hj, hc with | 0, hj, hc => (change (up b 10 1 && !up b 10 5) = true at hc; rw [eb1, eb5] at hc; exact ⟨hc, rfl⟩) | 1, hj, hc => (change (up b 10 5 && !up b 10 7) = true at hc; rw [eb5, eb7] at hc; exact ⟨hc, rfl⟩) | 2, hj, hc => (change (up b 10 7) = true at hc; rw [eb7] at hc; exact ⟨hc, rfl⟩) | 3, hj, hc => exact absurd rfl hj | 4, hj, hc => (change (up b 10 11 && !up b 10 12) = true at hc; rw [eb11, eb12] at hc; exact ⟨hc, rfl⟩) | 5, hj, hc => (change (up b 10 12) = true at hc; rw [eb12, hoff 12 (by kernel_rfl)] at hc; simp at hc) | j + 6, hj, hc => simp at hc)⟩⟩
   refine steps_cons ?_ ?_
   · rintro b a w' ⟨vE, v1, A2, c2, A, c, X, ha, hI⟩ hb_ hon hoff
     refine ⟨_, rfl, fun K hK => ?_⟩
     replace ha := Lib.hid ha
     have HI := Lib.hid hI
     clear hI
     refine value_ (w1 := w'.alloc (.cells #[.int .i64 0, .int .i64 0, .slice none 0 0, .int .i64 0] 35)) (v := .pointer (some ⟨w'.heap.size, 0, none⟩)) (by rfl) rfl ?_ ?_
     · go_simp
       try rfl
     exact hK.out _ _ ⟨vE, v1, A2, c2, A, c, w'.heap.size, (by rw [ha.out]; exact putSel_upk 11 hb_ rfl rfl rfl), HI.out.new 4 rfl (by intro j hj hc; have eb1 : up b 11 1 = b 1 := up_ne (by decide); have eb5 : up b 11 5 = b 5 := up_ne (by decide); have eb7 : up b 11 7 = b 7 := up_ne (by decide); have eb10 : up b 11 10 = b 10 := up_ne (by decide); have eb12 : up b 11 12 = b 12 := up_ne (by decide); have eb11 : up b 11 11 = true := up_self _ _; match j, hj, hc with | 0, hj, hc => (change (up b 11 1 && !up b 11 5) = true at hc; rw [eb1, eb5] at hc; exact ⟨hc, rfl⟩) | 1, hj, hc => (change (up b 11 5 && !up b 11 7) = true at hc; rw [eb5, eb7] at hc; exact ⟨hc, rfl⟩) | 2, hj, hc => (change (up b 11 7) = true at hc; rw [eb7] at hc; exact ⟨hc, rfl⟩) | 3, hj, hc => (change (up b 11 10) = true at hc; rw [eb10] at hc; exact ⟨hc, rfl⟩) | 4, hj, hc => exact absurd rfl hj | 5, hj, hc => (change (up b 11 12) = true at hc; rw [eb12, hoff 12 (by kernel_rfl)] at hc; simp at hc) | j + 6, hj, hc => simp at hc)⟩
   refine steps_cons ?_ ?_
   · rintro b a w' ⟨vE, v1, A2, c2, A, c, X, ha, hI⟩ hb_ hon hoff
     refine ⟨_, rfl, fun K hK => ?_⟩
     have e10_ : a.tmps[57]? = some (.agg #[.int .i64 pe.kind, .int .i64 pe.n, .slice A pe.out.length c, .int .i64 pe.steps]) := by rw [ha]; exact putSel_on (e := (10, 57, .agg #[.int .i64 pe.kind, .int .i64 pe.n, .slice A pe.out.length c, .int .i64 pe.steps])) 10 rfl rfl (hon 10 (by kernel_rfl)) rfl
     have e11_ : a.tmps[11]? = some (.pointer (some ⟨X, 0, none⟩)) := by rw [ha]; exact putSel_on (e := (11, 11, .pointer (some ⟨X, 0, none⟩))) 11 rfl rfl (hon 11 (by kernel_rfl)) rfl
     obtain ⟨y0, y1, y2, y3, y4⟩ := zeroC_cells ((hI.hold 4 (by show (b 11 && !b 12) = true; rw [hon 11 (by kernel_rfl), hb_]; try rfl)).1)
     replace ha := Lib.hid ha
     have HI := Lib.hid hI
     clear hI
     refine skip_ (w1 := setE w' X pe A c) (by rfl) rfl ?_ ?_
     · unfold setE
       go_simp
       try rfl
     exact hK.out _ _ ⟨vE, v1, A2, c2, A, c, X, (by rw [ha.out]; exact (putSel_skipY rfl).symm), HI.out.turn 4 5 (by show (b 11 && !b 12) = true; rw [hon 11 (by kernel_rfl), hb_]; try rfl) rfl (chg_setE _ _ _ _ _) rfl (setE_self (HI.out.hold 4 (by show (b 11 && !b 12) = true; rw [hon 11 (by kernel_rfl), hb_]; try rfl)).1 _ _ _) (by intro j hj hc; have eb1 : up b 12 1 = b 1 := up_ne (by decide); have eb5 : up b 12 5 = b 5 := up_ne (by decide); have eb7 : up b 12 7 = b 7 := up_ne (by decide); have eb10 : up b 12 10 = b 10 := up_ne (by decide); have eb11 : up b 12 11 = b 11 := up_ne (by decide); have eb12 : up b 12 12 = true := up_self _ _; match j, hj, hc with | 0, hj, hc => (change (up b 12 1 && !up b 12 5) = true at hc; rw [eb1, eb5] at hc; exact ⟨hc, rfl, by decide⟩) | 1, hj, hc => (change (up b 12 5 && !up b 12 7) = true at hc; rw [eb5, eb7] at hc; exact ⟨hc, rfl, by decide⟩) | 2, hj, hc => (change (up b 12 7) = true at hc; rw [eb7] at hc; exact ⟨hc, rfl, by decide⟩) | 3, hj, hc => (change (up b 12 10) = true at hc; rw [eb10] at hc; exact ⟨hc, rfl, by decide⟩) | 4, hj, hc => (change (up b 12 11 && !up b 12 12) = true at hc; rw [eb11, eb12] at hc; simp at hc) | 5, hj, hc => exact absurd rfl hj | j + 6, hj, hc => simp at hc)⟩
   exact steps_nil
 rintro b a w' hall ⟨vE, v1, A2, c2, A, c, X, ha, hI⟩
 have hl : ∀ j, j ≤ 12 → b j = true := fun j hj => hall j (by
  have : j = 0 ∨ j = 1 ∨ j = 2 ∨ j = 3 ∨ j = 4 ∨ j = 5 ∨ j = 6 ∨ j = 7 ∨ j = 8 ∨ j = 9 ∨ j = 10 ∨ j = 11 ∨ j = 12 := by omega
  rcases this with rfl | rfl | rfl | rfl | rfl | rfl | rfl | rfl | rfl | rfl | rfl | rfl | rfl <;> rfl)
 have b0 := hl 0 (by decide)
 have b1 := hl 1 (by decide)
 have b2 := hl 2 (by decide)
 have b3 := hl 3 (by decide)
 have b4 := hl 4 (by decide)
 have b5 := hl 5 (by decide)
 have b6 := hl 6 (by decide)
 have b7 := hl 7 (by decide)
 have b8 := hl 8 (by decide)
 have b9 := hl 9 (by decide)
 have b10 := hl 10 (by decide)
 have b11 := hl 11 (by decide)
 have b12 := hl 12 (by decide)
 have f2 := (hI.hold 2 (by show (b 7) = true; rw [b7]; try rfl)).1
 have f3 := (hI.hold 3 (by show (b 10) = true; rw [b10]; try rfl)).1
 have f5 := (hI.hold 5 (by show (b 12) = true; rw [b12]; try rfl)).1
 have hbel := hI.bel
 have HREG := Lib.hid hI
 clear hI
 subst ha
 simp only [putSel, b0, b1, b2, b3, b4, b5, b6, b7, b8, b9, b10, b11, if_true, Act.put, List.setIfInBounds_toArray, List.set_cons_zero, List.set_cons_succ, Exit.then]
 exact HK0.out _ _ (HEND.out _ X hbel ⟨A, c, f5, f3⟩ _ _ _ _ _ _ _ _ _ _ _ _ _ _ _ _ _ _ _ _ _ _ _ _ _ _ _ _ _ _ _ _ _ _ _ _ _ _ _ _ _ _ _ _ _ _ _ _ _ _ _ _ _ _ _ _ _ _ _ _ _ _ _ _ _ _ _ _ _)
open Go.Proofs.YtnobggabjpcbfaaGreatW.PrintWords Go.Proofs.YtnobggabjpcbfaaGreatW.PrintLast in
theorem fi_run6 {W V : World} (hb : Below W.heap.size W V) {X4 L ci n m cm p2 p3 e2 e3 : Nat} {Ai Am P2 P3 : Option Addr} {p4 : Bool} {p5 f sf : Int} {pa pe : PEnd} {pre more : List Int} (hnp : pre.length = n) (hlm : more.length = m) (hn : n ≤ 60) (hm : m ≤ 60) (hnc : n ≤ ci) (hsame : sameE pa pe = true ∧ pa.steps = pe.steps)
 (hS : ∀ V2, Below V.heap.size V V2 → V2.cell? ⟨X4, 0, none⟩ = some (.slice P2 p2 e2) ∧ V2.cell? ⟨X4, 1, none⟩ = some (.slice P3 p3 e3) ∧ V2.cell? ⟨X4, 2, none⟩ = some (.bool p4) ∧ V2.cell? ⟨X4, 3, none⟩ = some (.int .i64 p5))
 (hsh : ∀ V2, Calls Tryz.prog 8 #[.int .i64 f] V2 fun e w' => e = .returned (.int .i64 sf) ∧ V2 = w')
 (hpre : ∀ V2, Below V.heap.size V V2 → RowI V2 Ai (iv pre)) (hmore : ∀ V2, Below V.heap.size V V2 → RowI V2 Am (iv more))
 (hrb : ∀ V2 A2 c2, Below V.heap.size V V2 → IntsIn V2.heap.size V2 A2 (pre ++ more) → (pre ++ more).length ≤ c2 → Calls Tryz.prog 7 #[.agg #[.slice P2 p2 e2, .slice P3 p3 e3, .bool p4, .int .i64 p5], .slice A2 (pre ++ more).length c2, .int .i64 sf] V2 (RunPost pe V2))
 (hra : ∀ V2, Below V.heap.size V V2 → Calls Tryz.prog 7 #[.agg #[.slice P2 p2 e2, .slice P3 p3 e3, .bool p4, .int .i64 p5], .slice Ai n ci, .int .i64 sf] V2 (RunPost pa V2))
 (hkn : ∀ V2, Below V.heap.size V V2 → Calls Tryz.prog 6 #[] V2 (BoolBelow true V2)) (u0 u5 u6 u7 u8 u10 u11 u12 u13 u14 u15 u16 u17 u18 u19 u20 u21 u22 u23 u24 u25 u26 u27 u28 u29 u30 u31 u32 u33 u34 u35 u36 u37 u38 u39 u40 u41 u42 u43 u44 u45 u46 u47 u48 u49 u50 u51 u52 u53 u54 u55 u56 u57 u58 u59 u60 u61 u62 u63 u64 u65 u66 u67 u68 u69 u70 : Value) :
 ∀ K : Act → World → Prop, (∀ a w, fiT7.wp Tryz.prog (bodyPost Tryz.prog Tryz.f4 (BoolBelow true W)) a w → K a w) → fiR6.wp Tryz.prog (Exit.then K (bodyPost Tryz.prog Tryz.f4 (BoolBelow true W))) { tmps := #[u0, .slice Ai L ci, .slice Am m cm, .int .i64 f, .pointer (some ⟨X4, 0, none⟩), u5, u6, u7, u8, .int .i64 (n : Int), u10, u11, u12, u13, u14, u15, u16, u17, u18, u19, u20, u21, u22, u23, u24, u25, u26, u27, u28, u29, u30, u31, u32, u33, u34, u35, u36, u37, u38, u39, u40, u41, u42, u43, u44, u45, u46, u47, u48, u49, u50, u51, u52, u53, u54, u55, u56, u57, u58, u59, u60, u61, u62, u63, u64, u65, u66, u67, u68, u69, u70], defers := [] } V := by
 intro K hK0
 have HK0 := Lib.hid hK0
 clear hK0
 have HEND := Lib.hid (fun (V2 : World) (X7 : Nat) (hv : Below V.heap.size V V2) (he : EndAt V2 X7 pa) (y0 y5 y6 y7 y8 y11 y12 y13 y14 y15 y16 y17 y18 y19 y20 y21 y22 y23 y24 y25 y26 y27 y28 y29 y30 y31 y32 y33 y34 y35 y36 y37 y38 y39 y40 y41 y42 y43 y44 y45 y46 y47 y48 y49 y50 y51 y52 y53 y54 y55 y56 y57 y58 y59 y60 y61 y62 y63 y64 y65 y66 y67 y68 y69 y70 : Value) =>
  (show fiT7.wp Tryz.prog (bodyPost Tryz.prog Tryz.f4 (BoolBelow true W)) { tmps := #[y0, .slice Ai L ci, .slice Am m cm, .int .i64 f, .pointer (some ⟨X4, 0, none⟩), y5, y6, y7, y8, .int .i64 (n : Int), .pointer (some ⟨X7, 0, none⟩), y11, y12, y13, y14, y15, y16, y17, y18, y19, y20, y21, y22, y23, y24, y25, y26, y27, y28, y29, y30, y31, y32, y33, y34, y35, y36, y37, y38, y39, y40, y41, y42, y43, y44, y45, y46, y47, y48, y49, y50, y51, y52, y53, y54, y55, y56, y57, y58, y59, y60, y61, y62, y63, y64, y65, y66, y67, y68, y69, y70], defers := [] } V2 from by
   show (Code.seq fiR7 fiT8).wp Tryz.prog _ _ _
   exact wp_seq (fi_run7 (hb.trans (hv.mono hb.size)) hnp hlm hn hm hnc hsame (fun V3 h3 => hS V3 (hv.trans (h3.mono hv.size))) hsh (fun V3 h3 => hpre V3 (hv.trans (h3.mono hv.size))) (fun V3 h3 => hmore V3 (hv.trans (h3.mono hv.size))) (fun V3 A2 c2 h3 => hrb V3 A2 c2 (hv.trans (h3.mono hv.size))) he (fun V3 h3 => hkn V3 (hv.trans (h3.mono hv.size))) _ _ _ _ _ _ _ _ _ _ _ _ _ _ _ _ _ _ _ _ _ _ _ _ _ _ _ _ _ _ _ _ _ _ _ _ _ _ _ _ _ _ _ _ _ _ _ _ _ _ _ _ _ _ _ _ _ _ _ _ _ _ _ _ _ _ (fun a w h => h))))
 have HS := Lib.hid hS
 have HSH := Lib.hid hsh
 have HRA := Lib.hid hra
 have D0 := Lib.hid (show Below V.heap.size V V.drew from (Below.refl _ _).drew)
 have hn0 : (0 : Int) ≤ (n : Int) := by omega
 have hnc2 : (n : Int) ≤ (ci : Int) := by omega
 clear hS hrb hb hsh hsame hpre hmore hkn hra
 unfold fiR6 Tryz.f4
 dsimp only
 refine start_ (n := 9) (S := fun w' => True) (ds := []) #[false, false, false, false, false, false, false, false, false] (by kernel_rfl) rfl rfl trivial (fun hHeld => ?_)
 clear hHeld
 refine inv_at (B := [0, 0, 0, 6, 0, 16, 63, 0, 255]) [0, 1, 2, 3, 4, 5, 6, 7, 8] (fun a0_ b a w' => ∃ A c X, a = putSel a0_ b [(0, 40, .agg #[.slice P2 p2 e2, .slice P3 p3 e3, .bool p4, .int .i64 p5]), (1, 41, .slice Ai L ci), (2, 42, .int .i64 (n : Int)), (3, 43, .slice Ai n ci), (4, 44, .int .i64 f), (5, 45, .int .i64 sf), (6, 46, .agg #[.int .i64 pa.kind, .int .i64 pa.n, .slice A pa.out.length c, .int .i64 pa.steps]), (7, 10, .pointer (some ⟨X, 0, none⟩))] ∧ Reg V [(b 6), (b 7 && !b 8), (b 8)] [intsFa A pa.out, blkFa X zeroC, blkFa X (endC pa A c)] w') rfl (by kernel_rfl) (by kernel_rfl) (by kernel_rfl) ?_ ?_ ?_
 · exact ⟨none, 0, 0, by simp only [putSel, Bool.false_eq_true, if_false], Reg.start D0.out (fun i => by match i with | 0 => rfl | 1 => rfl | 2 => rfl | i + 3 => simp)⟩
 · skip
   refine steps_cons ?_ ?_
   · rintro b a w' ⟨A, c, X, ha, hI⟩ hb_ hon hoff
     refine ⟨_, rfl, fun K hK => ?_⟩
     have m4 : a.tmps[4]? = some (.pointer (some ⟨X4, 0, none⟩)) := by rw [ha]; exact (putSel_off rfl).trans rfl
     obtain ⟨z0, z1, z2, z3⟩ := HS.out w' hI.bel
     replace ha := Lib.hid ha
     have HI := Lib.hid hI
     clear hI
     refine value_ (w1 := w') (v := .agg #[.slice P2 p2 e2, .slice P3 p3 e3, .bool p4, .int .i64 p5]) (by rfl) rfl ?_ ?_
     · go_simp
       try rfl
     exact hK.out _ _ ⟨A, c, X, (by rw [ha.out]; exact putSel_upk 0 hb_ rfl rfl rfl), (by have h := HI.out; have eb6 : up b 0 6 = b 6 := up_ne (by decide); have eb7 : up b 0 7 = b 7 := up_ne (by decide); have eb8 : up b 0 8 = b 8 := up_ne (by decide); rw [eb6, eb7, eb8]; exact h)⟩
   refine steps_cons ?_ ?_
   · rintro b a w' ⟨A, c, X, ha, hI⟩ hb_ hon hoff
     refine ⟨_, rfl, fun K hK => ?_⟩
     have m1 : a.tmps[1]? = some (.slice Ai L ci) := by rw [ha]; exact (putSel_off rfl).trans rfl
     replace ha := Lib.hid ha
     have HI := Lib.hid hI
     clear hI
     refine value_ (w1 := w') (v := .slice Ai L ci) (by rfl) rfl ?_ ?_
     · go_simp
       try rfl
     exact hK.out _ _ ⟨A, c, X, (by rw [ha.out]; exact putSel_upk 1 hb_ rfl rfl rfl), (by have h := HI.out; have eb6 : up b 1 6 = b 6 := up_ne (by decide); have eb7 : up b 1 7 = b 7 := up_ne (by decide); have eb8 : up b 1 8 = b 8 := up_ne (by decide); rw [eb6, eb7, eb8]; exact h)⟩
   refine steps_cons ?_ ?_
   · rintro b a w' ⟨A, c, X, ha, hI⟩ hb_ hon hoff
     refine ⟨_, rfl, fun K hK => ?_⟩
     have m9 : a.tmps[9]? = some (.int .i64 (n : Int)) := by rw [ha]; exact (putSel_off rfl).trans rfl
     replace ha := Lib.hid ha
     have HI := Lib.hid hI
     clear hI
     refine value_ (w1 := w') (v := .int .i64 (n : Int)) (by rfl) rfl ?_ ?_
     · go_simp
       try rfl
     exact hK.out _ _ ⟨A, c, X, (by rw [ha.out]; exact putSel_upk 2 hb_ rfl rfl rfl), (by have h := HI.out; have eb6 : up b 2 6 = b 6 := up_ne (by decide); have eb7 : up b 2 7 = b 7 := up_ne (by decide); have eb8 : up b 2 8 = b 8 := up_ne (by decide); rw [eb6, eb7, eb8]; exact h)⟩
   refine steps_cons ?_ ?_
   · rintro b a w' ⟨A, c, X, ha, hI⟩ hb_ hon hoff
     refine ⟨_, rfl, fun K hK => ?_⟩
     have e1_ : a.tmps[41]? = some (.slice Ai L ci) := by rw [ha]; exact putSel_on (e := (1, 41, .slice Ai L ci)) 1 rfl rfl (hon 1 (by kernel_rfl)) rfl
     have e2_ : a.tmps[42]? = some (.int .i64 (n : Int)) := by rw [ha]; exact putSel_on (e := (2, 42, .int .i64 (n : Int))) 2 rfl rfl (hon 2 (by kernel_rfl)) rfl
     replace ha := Lib.hid ha
     have HI := Lib.hid hI
     clear hI
     refine value_ (w1 := w') (v := .slice Ai n ci) (by rfl) rfl ?_ ?_
     · go_simp
       try rfl
     exact hK.out _ _ ⟨A, c, X, (by rw [ha.out]; exact putSel_upk 3 hb_ rfl rfl rfl), (by have h := HI.out; have eb6 : up b 3 6 = b 6 := up_ne (by decide); have eb7 : up b 3 7 = b 7 := up_ne (by decide); have eb8 : up b 3 8 = b 8 := up_ne (by decide); rw [eb6, eb7, eb8]; exact h)⟩
   refine steps_cons ?_ ?_
   · rintro b a w' ⟨A, c, X, ha, hI⟩ hb_ hon hoff
     refine ⟨_, rfl, fun K hK => ?_⟩
     have m3 : a.tmps[3]? = some (.int .i64 f) := by rw [ha]; exact (putSel_off rfl).trans rfl
     replace ha := Lib.hid ha
     have HI := Lib.hid hI
     clear hI
     refine value_ (w1 := w') (v := .int .i64 f) (by rfl) rfl ?_ ?_
     · go_simp
       try rfl
     exact hK.out _ _ ⟨A, c, X, (by rw [ha.out]; exact putSel_upk 4 hb_ rfl rfl rfl), (by have h := HI.out; have eb6 : up b 4 6 = b 6 := up_ne (by decide); have eb7 : up b 4 7 = b 7 := up_ne (by decide); have eb8 : up b 4 8 = b 8 := up_ne (by decide); rw [eb6, eb7, eb8]; exact h)⟩
   refine steps_cons ?_ ?_
   · rintro b a w' ⟨A, c, X, ha, hI⟩ hb_ hon hoff
     refine ⟨_, rfl, fun K hK => ?_⟩
     have e4_ : a.tmps[44]? = some (.int .i64 f) := by rw [ha]; exact putSel_on (e := (4, 44, .int .i64 f)) 4 rfl rfl (hon 4 (by kernel_rfl)) rfl
     replace ha := Lib.hid ha
     have HI := Lib.hid hI
     clear hI
     refine goes_ Tryz.func8 (by kernel_rfl) rfl #[.int .i64 f] (by rfl) rfl rfl (by first | (simp only [List.map_toArray, List.map_cons, List.map_nil, Act.eval, Array.getD_eq_getD_getElem?, Option.getD_some, e4_]; done) | (simp only [List.map_toArray, List.map_cons, List.map_nil, Act.eval, Array.getD_eq_getD_getElem?, Option.getD_some, e4_]; rfl)) ?_
     refine (HSH.out w').mono ?_
     rintro e w2 ⟨rfl, rfl⟩
     exact ⟨_, rfl, hK.out _ _ ⟨A, c, X, (by rw [ha.out]; exact putSel_upk 5 hb_ rfl rfl rfl), (by have h := HI.out; have eb6 : up b 5 6 = b 6 := up_ne (by decide); have eb7 : up b 5 7 = b 7 := up_ne (by decide); have eb8 : up b 5 8 = b 8 := up_ne (by decide); rw [eb6, eb7, eb8]; exact h)⟩⟩
   refine steps_cons ?_ ?_
   · rintro b a w' ⟨A, c, X, ha, hI⟩ hb_ hon hoff
     refine ⟨_, rfl, fun K hK => ?_⟩
     have e0_ : a.tmps[40]? = some (.agg #[.slice P2 p2 e2, .slice P3 p3 e3, .bool p4, .int .i64 p5]) := by rw [ha]; exact putSel_on (e := (0, 40, .agg #[.slice P2 p2 e2, .slice P3 p3 e3, .bool p4, .int .i64 p5])) 0 rfl rfl (hon 0 (by kernel_rfl)) rfl
     have e3_ : a.tmps[43]? = some (.slice Ai n ci) := by rw [ha]; exact putSel_on (e := (3, 43, .slice Ai n ci)) 3 rfl rfl (hon 3 (by kernel_rfl)) rfl
     have e5_ : a.tmps[45]? = some (.int .i64 sf) := by rw [ha]; exact putSel_on (e := (5, 45, .int .i64 sf)) 5 rfl rfl (hon 5 (by kernel_rfl)) rfl
     replace ha := Lib.hid ha
     have HI := Lib.hid hI
     clear hI
     refine goes_ Tryz.func7 (by kernel_rfl) rfl #[.agg #[.slice P2 p2 e2, .slice P3 p3 e3, .bool p4, .int .i64 p5], .slice Ai n ci, .int .i64 sf] (by rfl) rfl rfl (by first | (simp only [List.map_toArray, List.map_cons, List.map_nil, Act.eval, Array.getD_eq_getD_getElem?, Option.getD_some, e0_, e3_, e5_]; done) | (simp only [List.map_toArray, List.map_cons, List.map_nil, Act.eval, Array.getD_eq_getD_getElem?, Option.getD_some, e0_, e3_, e5_]; rfl)) ?_
     refine (HRA.out w' HI.out.bel).mono ?_
     rintro e w2 ⟨v, A_, c_, rfl, rfl, hE, hb2, hlo⟩
     obtain ⟨A', c', heq, hi⟩ := hE
     simp only [Value.agg.injEq, Array.mk.injEq, List.cons.injEq, Value.slice.injEq, true_and, and_true] at heq
     obtain ⟨rfl, rfl⟩ := heq
     exact ⟨_, rfl, hK.out _ _ ⟨A_, c_, X, (by rw [ha.out]; exact putSel_upk 6 hb_ rfl rfl rfl), HI.out.ints 0 hb2 rfl hi hlo (by intro j hj hc; have eb7 : up b 6 7 = b 7 := up_ne (by decide); have eb8 : up b 6 8 = b 8 := up_ne (by decide); have eb6 : up b 6 6 = true := up_self _ _; match j, hj, hc with | 0, hj, hc => exact absurd rfl hj | 1, hj, hc => (change (up b 6 7 && !up b 6 8) = true at hc; rw [eb7, eb8] at hc; exact ⟨hc, rfl⟩) | 2, hj, hc => (change (up b 6 8) = true at hc; rw [eb8, hoff 8 (by kernel_rfl)] at hc; simp at hc) | j + 3, hj, hc => simp at hc)⟩⟩
   refine steps_cons ?_ ?_
   · rintro b a w' ⟨A, c, X, ha, hI⟩ hb_ hon hoff
     refine ⟨_, rfl, fun K hK => ?_⟩
     replace ha := Lib.hid ha
     have HI := Lib.hid hI
     clear hI
     refine value_ (w1 := w'.alloc (.cells #[.int .i64 0, .int .i64 0, .slice none 0 0, .int .i64 0] 35)) (v := .pointer (some ⟨w'.heap.size, 0, none⟩)) (by rfl) rfl ?_ ?_
     · go_simp
       try rfl
     exact hK.out _ _ ⟨A, c, w'.heap.size, (by rw [ha.out]; exact putSel_upk 7 hb_ rfl rfl rfl), HI.out.new 1 rfl (by intro j hj hc; have eb6 : up b 7 6 = b 6 := up_ne (by decide); have eb8 : up b 7 8 = b 8 := up_ne (by decide); have eb7 : up b 7 7 = true := up_self _ _; match j, hj, hc with | 0, hj, hc => (change (up b 7 6) = true at hc; rw [eb6] at hc; exact ⟨hc, rfl⟩) | 1, hj, hc => exact absurd rfl hj | 2, hj, hc => (change (up b 7 8) = true at hc; rw [eb8, hoff 8 (by kernel_rfl)] at hc; simp at hc) | j + 3, hj, hc => simp at hc)⟩
   refine steps_cons ?_ ?_
   · rintro b a w' ⟨A, c, X, ha, hI⟩ hb_ hon hoff
     refine ⟨_, rfl, fun K hK => ?_⟩
     have e6_ : a.tmps[46]? = some (.agg #[.int .i64 pa.kind, .int .i64 pa.n, .slice A pa.out.length c, .int .i64 pa.steps]) := by rw [ha]; exact putSel_on (e := (6, 46, .agg #[.int .i64 pa.kind, .int .i64 pa.n, .slice A pa.out.length c, .int .i64 pa.steps])) 6 rfl rfl (hon 6 (by kernel_rfl)) rfl
     have e7_ : a.tmps[10]? = some (.pointer (some ⟨X, 0, none⟩)) := by rw [ha]; exact putSel_on (e := (7, 10, .pointer (some ⟨X, 0, none⟩))) 7 rfl rfl (hon 7 (by kernel_rfl)) rfl
     obtain ⟨y0, y1, y2, y3, y4⟩ := zeroC_cells ((hI.hold 1 (by show (b 7 && !b 8) = true; rw [hon 7 (by kernel_rfl), hb_]; try rfl)).1)
     replace ha := Lib.hid ha
     have HI := Lib.hid hI
     clear hI
     refine skip_ (w1 := setE w' X pa A c) (by rfl) rfl ?_ ?_
     · unfold setE
       go_simp
       try rfl
     exact hK.out _ _ ⟨A, c, X, (by rw [ha.out]; exact (putSel_skipY rfl).symm), HI.out.turn 1 2 (by show (b 7 && !b 8) = true; rw [hon 7 (by kernel_rfl), hb_]; try rfl) rfl (chg_setE _ _ _ _ _) rfl (setE_self (HI.out.hold 1 (by show (b 7 && !b 8) = true; rw [hon 7 (by kernel_rfl), hb_]; try rfl)).1 _ _ _) (by intro j hj hc; have eb6 : up b 8 6 = b 6 := up_ne (by decide); have eb7 : up b 8 7 = b 7 := up_ne (by decide); have eb8 : up b 8 8 = true := up_self _ _; match j, hj, hc with | 0, hj, hc => (change (up b 8 6) = true at hc; rw [eb6] at hc; exact ⟨hc, rfl, by decide⟩) | 1, hj, hc => (change (up b 8 7 && !up b 8 8) = true at hc; rw [eb7, eb8] at hc; simp at hc) | 2, hj, hc => exact absurd rfl hj | j + 3, hj, hc => simp at hc)⟩
   exact steps_nil
 rintro b a w' hall ⟨A, c, X, ha, hI⟩
 have hl : ∀ j, j ≤ 8 → b j = true := fun j hj => hall j (by
  have : j = 0 ∨ j = 1 ∨ j = 2 ∨ j = 3 ∨ j = 4 ∨ j = 5 ∨ j = 6 ∨ j = 7 ∨ j = 8 := by omega
  rcases this with rfl | rfl | rfl | rfl | rfl | rfl | rfl | rfl | rfl <;> rfl)
 have b0 := hl 0 (by decide)
 have b1 := hl 1 (by decide)
 have b2 := hl 2 (by decide)
 have b3 := hl 3 (by decide)
 have b4 := hl 4 (by decide)
 have b5 := hl 5 (by decide)
 have b6 := hl 6 (by decide)
 have b7 := hl 7 (by decide)
 have b8 := hl 8 (by decide)
 have f0 := (hI.hold 0 (by show (b 6) = true; rw [b6]; try rfl)).1
 have f2 := (hI.hold 2 (by show (b 8) = true; rw [b8]; try rfl)).1
 have hbel := hI.bel
 have HREG := Lib.hid hI
 clear hI
 subst ha
 simp only [putSel, b0, b1, b2, b3, b4, b5, b6, b7, if_true, Act.put, List.setIfInBounds_toArray, List.set_cons_zero, List.set_cons_succ, Exit.then]
 exact HK0.out _ _ (HEND.out _ X hbel ⟨A, c, f2, f0⟩ _ _ _ _ _ _ _ _ _ _ _ _ _ _ _ _ _ _ _ _ _ _ _ _ _ _ _ _ _ _ _ _ _ _ _ _ _ _ _ _ _ _ _ _ _ _ _ _ _ _ _ _ _ _ _ _ _ _ _ _ _ _ _ _ _)
end Go.Proofs.YtnobggabjpcbfaaGreat
