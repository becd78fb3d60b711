/-
  5 texts of this seat in one: Y11 Y4 Y7 Y8 Y12.
-/
import Derived.Test.YtnobggabjpcbfaaQM11
import Derived.Test.YtnobggabjpcbfaaQM2
import Derived.Test.YtnobggabjpcbfaaQM12
import Derived.Test.YtnobggabjpcbfaaQM15
import Derived.Test.YtnobggabjpcbfaaQM16
import Derived.Test.YtnobggabjpcbfaaQM9
import Derived.Test.YtnobggabjpcbfaaQM3
/-
  FevalMain: the caller's program is put together.
-/
set_option linter.unusedVariables false
set_option linter.unusedSimpArgs false
namespace Go.Proofs.Ytnobggabjpcbfaa
open Go.RowKit

noncomputable def mnR5 : Code := match Try.f6.body with
  | some (.seq _ (.seq _ (.seq _ (.seq _ (.seq c _))))) => c
  | _ => .skip
noncomputable def mnT6 : Code := match Try.f6.body with
  | some (.seq _ (.seq _ (.seq _ (.seq _ (.seq _ c))))) => c
  | _ => .skip
noncomputable def mnR6 : Code := match Try.f6.body with
  | some (.seq _ (.seq _ (.seq _ (.seq _ (.seq _ (.seq c _)))))) => c
  | _ => .skip
noncomputable def mnT7 : Code := match Try.f6.body with
  | some (.seq _ (.seq _ (.seq _ (.seq _ (.seq _ (.seq _ c)))))) => c
  | _ => .skip
/-- the caller's body lies in its blocks -/
theorem caller_on {w : World} {Ra Rr : Nat} {nn : Int} (ha : w.heap[Ra]? = some (.cells #[.bool true, .int .i64 65533, .bool false, .int .i64 0] 25 (0, 0))) (hr : w.heap[Rr]? = some (.cells [.int .i64 65533, .int .i64 9, .int .i64 nn, .slice none 0 0, .slice none 0 0, .slice none 0 0, .int .i64 65532, .int .i64 6, .int .i64 0, .slice (some ⟨Ra, 0, none⟩) 2 2, .slice none 0 0, .slice none 0 0].toArray 54 (0, 0))) : BodyOn (fun k => k = Ra ∨ k = Rr) w (callerA nn) #[.slice (some ⟨Rr, 0, none⟩) 2 2, .bool true, .int .i64 65532] := by
  refine ⟨_, 2, Rr, 0, rfl, by simp [callerA, Anf.len], by simp [callerA, Anf.len], fun _ => rfl, ?_⟩
  have c : ∀ q, q < 12 → w.cell? ⟨Rr, 0 + q, none⟩ = ([.int .i64 65533, .int .i64 9, .int .i64 nn, .slice none 0 0, .slice none 0 0, .slice none 0 0, .int .i64 65532, .int .i64 6, .int .i64 0, .slice (some ⟨Ra, 0, none⟩) 2 2, .slice none 0 0, .slice none 0 0] : List Value)[q]? := fun q hq => by
    simp only [World.cell?, hr]
    simp
  unfold callerA
  refine AnfOn.cons_ (cs := [.int .i64 65533, .int .i64 9, .int .i64 nn, .slice none 0 0, .slice none 0 0, .slice none 0 0]) (.inr rfl) ⟨none, none, none, 0, 0, 0, rfl, ⟨by simp, .inl rfl⟩, by simp, ⟨by simp, .inl rfl⟩, by simp, by simp, by simp, fun j hj => absurd hj (by simp)⟩ (fun q hq => ?_) (AnfOn.cons_ (cs := [.int .i64 65532, .int .i64 6, .int .i64 0, .slice (some ⟨Ra, 0, none⟩) 2 2, .slice none 0 0, .slice none 0 0]) (.inr rfl) ⟨some ⟨Ra, 0, none⟩, none, none, 2, 0, 0, rfl, ⟨by simp, .inr ⟨Ra, 0, rfl, .inl rfl, fun j hj => ?_⟩⟩, by simp, ⟨by simp, .inl rfl⟩, by simp, by simp, by simp, fun j hj => absurd hj (by simp)⟩ (fun q hq => ?_) (.ret _ _ _ _))
  · rw [show 0 + 0 * 6 + q = 0 + q by omega, c q (by omega)]
    have : q = 0 ∨ q = 1 ∨ q = 2 ∨ q = 3 ∨ q = 4 ∨ q = 5 := by omega
    rcases this with rfl | rfl | rfl | rfl | rfl | rfl <;> rfl
  · have : j = 0 ∨ j = 1 := by simp at hj; omega
    rcases this with rfl | rfl <;> simp [World.cell?, ha]
  · rw [show 0 + (0 + 1) * 6 + q = 0 + (6 + q) by omega, c (6 + q) (by omega)]
    have : q = 0 ∨ q = 1 ∨ q = 2 ∨ q = 3 ∨ q = 4 ∨ q = 5 := by omega
    rcases this with rfl | rfl | rfl | rfl | rfl | rfl <;> rfl
open Go.Proofs.YtnobggabjpcbfaaW.PrintWords Go.Proofs.YtnobggabjpcbfaaW.PrintLast in
set_option maxRecDepth 100000 in
set_option maxHeartbeats 16000000 in
theorem mn_build5 {W V : World} {X2 X7 L ci : Nat} {Ai : Option Addr} {nn : Int}
    (hS7 : ∀ V2, Below V.heap.size V V2 → V2.cell? ⟨X7, 0, none⟩ = some (.int .i64 65533) ∧ V2.cell? ⟨X7, 1, none⟩ = some (.int .i64 9) ∧ V2.cell? ⟨X7, 2, none⟩ = some (.int .i64 nn) ∧ V2.cell? ⟨X7, 3, none⟩ = some (.slice none 0 0) ∧ V2.cell? ⟨X7, 4, none⟩ = some (.slice none 0 0) ∧ V2.cell? ⟨X7, 5, none⟩ = some (.slice none 0 0))
    (hend : ∀ (V2 : World) (Ra Rr X8 : Nat), Below V.heap.size V V2 → V2.heap[Ra]? = some (.cells #[.bool true, .int .i64 65533, .bool false, .int .i64 0] 25 (0, 0)) → V2.heap[Rr]? = some (.cells [.int .i64 65533, .int .i64 9, .int .i64 nn, .slice none 0 0, .slice none 0 0, .slice none 0 0, .int .i64 65532, .int .i64 6, .int .i64 0, .slice (some ⟨Ra, 0, none⟩) 2 2, .slice none 0 0, .slice none 0 0].toArray 54 (0, 0)) → V2.heap[X8]? = some (.cells #[.slice none 0 0, .slice (some ⟨Rr, 0, none⟩) 2 2, .bool true, .int .i64 65532] 29 (0, 0)) → V.heap.size ≤ Ra → V.heap.size ≤ Rr → V.heap.size ≤ X8 → X8 ≠ Rr → X8 ≠ Ra → Rr ≠ Ra → ∀ (y0 y3 y4 y5 y6 y7 y9 y10 y11 y12 y13 y14 y15 y16 y17 y18 y19 y20 y21 y22 y23 y24 y25 y26 y27 y28 y29 y30 y31 y32 y33 y34 y35 y36 y37 y38 y39 y40 y41 y42 y43 y44 y45 y46 y47 y48 y49 y50 y51 y52 y53 y54 y55 y56 y57 y58 y59 y60 y61 y62 y63 y64 y65 y66 y67 y68 y69 y70 y71 y72 y73 y74 y75 y76 : Value), mnT6.wp Try.prog (bodyPost Try.prog Try.f6 (BoolBelow true W)) { tmps := #[y0, .slice Ai L ci, .pointer (some ⟨X2, 0, none⟩), y3, y4, y5, y6, y7, .pointer (some ⟨X8, 0, none⟩), y9, y10, y11, y12, y13, y14, y15, y16, y17, y18, y19, y20, y21, y22, y23, y24, y25, y26, y27, y28, y29, y30, y31, y32, y33, y34, y35, y36, y37, y38, y39, y40, y41, y42, y43, y44, y45, y46, y47, y48, y49, y50, y51, y52, y53, y54, y55, y56, y57, y58, y59, y60, y61, y62, y63, y64, y65, y66, y67, y68, y69, y70, y71, y72, y73, y74, y75, y76], defers := [] } V2) (u0 u3 u4 u8 u9 u10 u11 u12 u13 u14 u15 u16 u17 u18 u19 u20 u21 u22 u23 u24 u25 u26 u27 u28 u29 u30 u31 u32 u33 u34 u35 u36 u37 u38 u39 u40 u41 u42 u43 u44 u45 u46 u47 u48 u49 u50 u51 u52 u53 u54 u55 u56 u57 u58 u59 u60 u61 u62 u63 u64 u65 u66 u67 u68 u69 u70 u71 u72 u73 u74 u75 u76 : Value) :
    ∀ K : Act → World → Prop, (∀ a w, mnT6.wp Try.prog (bodyPost Try.prog Try.f6 (BoolBelow true W)) a w → K a w) → mnR5.wp Try.prog (Exit.then K (bodyPost Try.prog Try.f6 (BoolBelow true W))) { tmps := #[u0, .slice Ai L ci, .pointer (some ⟨X2, 0, none⟩), u3, u4, .int .i64 65533, .int .i64 65532, .pointer (some ⟨X7, 0, none⟩), u8, u9, u10, u11, u12, u13, u14, u15, u16, u17, u18, u19, u20, u21, u22, u23, u24, u25, u26, u27, u28, u29, u30, u31, u32, u33, u34, u35, u36, u37, u38, u39, u40, u41, u42, u43, u44, u45, u46, u47, u48, u49, u50, u51, u52, u53, u54, u55, u56, u57, u58, u59, u60, u61, u62, u63, u64, u65, u66, u67, u68, u69, u70, u71, u72, u73, u74, u75, u76], defers := [] } V := by
  intro K hK0
  have HK0 := Lib.hid hK0
  clear hK0
  have HEND := Lib.hid hend
  have HS7 := Lib.hid hS7
  have D0 := Lib.hid (show Below V.heap.size V V.drew from (Below.refl _ _).drew)
  clear hS7 hend
  unfold mnR5 Try.f6
  dsimp only
  refine start_ (n := 13) (S := fun w' => True) (ds := []) #[false, false, false, false, false, false, false, false, false, false, false, false, false] (by kernel_rfl) rfl rfl trivial (fun hHeld => ?_)
  clear hHeld
  refine inv_at (B := [0, 0, 0, 4, 12, 30, 63, 0, 190, 511, 1023, 0, 4095]) [0, 1, 2, 3, 4, 5, 6, 7, 8, 9, 10, 11, 12] (fun a0_ b a w' => ∃ Ra Rr X, a = putSel a0_ b [(0, 27, .agg #[.int .i64 65533, .int .i64 9, .int .i64 nn, .slice none 0 0, .slice none 0 0, .slice none 0 0]), (1, 28, .int .i64 65532), (2, 29, .int .i64 65533), (3, 30, .agg #[.bool true, .int .i64 65533]), (4, 31, .agg #[.bool false, .int .i64 0]), (5, 32, .agg #[.int .i64 65532, .int .i64 6, .int .i64 0, .slice (some ⟨Ra, 0, none⟩) 2 2, .slice none 0 0, .slice none 0 0]), (6, 33, .slice (some ⟨Rr, 0, none⟩) 2 2), (7, 34, .int .i64 65532), (8, 35, .agg #[.bool true, .int .i64 65532]), (9, 36, .agg #[.slice (some ⟨Rr, 0, none⟩) 2 2, .bool true, .int .i64 65532]), (10, 37, .agg #[.slice none 0 0, .slice (some ⟨Rr, 0, none⟩) 2 2, .bool true, .int .i64 65532]), (11, 8, .pointer (some ⟨X, 0, none⟩))] ∧ Reg V [(b 5), (b 6), (b 11 && !b 12), (b 12)] [blkFa Ra (.cells #[.bool true, .int .i64 65533, .bool false, .int .i64 0] 25 (0, 0)), blkFa Rr (.cells [.int .i64 65533, .int .i64 9, .int .i64 nn, .slice none 0 0, .slice none 0 0, .slice none 0 0, .int .i64 65532, .int .i64 6, .int .i64 0, .slice (some ⟨Ra, 0, none⟩) 2 2, .slice none 0 0, .slice none 0 0].toArray 54 (0, 0)), blkFa X (.cells #[.slice none 0 0, .slice none 0 0, .bool false, .int .i64 0] 29 (0, 0)), blkFa X (.cells #[.slice none 0 0, .slice (some ⟨Rr, 0, none⟩) 2 2, .bool true, .int .i64 65532] 29 (0, 0))] w') rfl (by kernel_rfl) (by kernel_rfl) (by kernel_rfl) ?_ ?_ ?_
  · exact ⟨0, 0, 0, by simp only [putSel, Bool.false_eq_true, if_false], Reg.start D0.out (fun i => by match i with | 0 => rfl | 1 => rfl | 2 => rfl | 3 => rfl | i + 4 => simp)⟩
  · skip
    refine steps_cons ?_ ?_
    · rintro b a w' ⟨Ra, Rr, X, ha, hI⟩ hb_ hon hoff
      refine ⟨_, rfl, fun K hK => ?_⟩
      have m7 : a.tmps[7]? = some (.pointer (some ⟨X7, 0, none⟩)) := by rw [ha]; exact (putSel_off rfl).trans rfl
      obtain ⟨z0, z1, z2, z3, z4, z5⟩ := HS7.out w' hI.bel
      replace ha := Lib.hid ha
      have HI := Lib.hid hI
      clear hI
      refine value_ (w1 := w') (v := .agg #[.int .i64 65533, .int .i64 9, .int .i64 nn, .slice none 0 0, .slice none 0 0, .slice none 0 0]) (by rfl) rfl ?_ ?_
      · go_simp
        try rfl
      exact hK.out _ _ ⟨Ra, Rr, X, (by rw [ha.out]; exact putSel_upk 0 hb_ rfl rfl rfl), (by have h := HI.out; have eb5 : up b 0 5 = b 5 := up_ne (by decide); have eb6 : up b 0 6 = b 6 := up_ne (by decide); have eb11 : up b 0 11 = b 11 := up_ne (by decide); have eb12 : up b 0 12 = b 12 := up_ne (by decide); rw [eb5, eb6, eb11, eb12]; exact h)⟩
    refine steps_cons ?_ ?_
    · rintro b a w' ⟨Ra, Rr, X, ha, hI⟩ hb_ hon hoff
      refine ⟨_, rfl, fun K hK => ?_⟩
      have m6 : a.tmps[6]? = some (.int .i64 65532) := by rw [ha]; exact (putSel_off rfl).trans rfl
      replace ha := Lib.hid ha
      have HI := Lib.hid hI
      clear hI
      refine value_ (w1 := w') (v := .int .i64 65532) (by rfl) rfl ?_ ?_
      · go_simp
        try rfl
      exact hK.out _ _ ⟨Ra, Rr, X, (by rw [ha.out]; exact putSel_upk 1 hb_ rfl rfl rfl), (by have h := HI.out; have eb5 : up b 1 5 = b 5 := up_ne (by decide); have eb6 : up b 1 6 = b 6 := up_ne (by decide); have eb11 : up b 1 11 = b 11 := up_ne (by decide); have eb12 : up b 1 12 = b 12 := up_ne (by decide); rw [eb5, eb6, eb11, eb12]; exact h)⟩
    refine steps_cons ?_ ?_
    · rintro b a w' ⟨Ra, Rr, X, ha, hI⟩ hb_ hon hoff
      refine ⟨_, rfl, fun K hK => ?_⟩
      have m5 : a.tmps[5]? = some (.int .i64 65533) := by rw [ha]; exact (putSel_off rfl).trans rfl
      replace ha := Lib.hid ha
      have HI := Lib.hid hI
      clear hI
      refine value_ (w1 := w') (v := .int .i64 65533) (by rfl) rfl ?_ ?_
      · go_simp
        try rfl
      exact hK.out _ _ ⟨Ra, Rr, X, (by rw [ha.out]; exact putSel_upk 2 hb_ rfl rfl rfl), (by have h := HI.out; have eb5 : up b 2 5 = b 5 := up_ne (by decide); have eb6 : up b 2 6 = b 6 := up_ne (by decide); have eb11 : up b 2 11 = b 11 := up_ne (by decide); have eb12 : up b 2 12 = b 12 := up_ne (by decide); rw [eb5, eb6, eb11, eb12]; exact h)⟩
    refine steps_cons ?_ ?_
    · rintro b a w' ⟨Ra, Rr, X, ha, hI⟩ hb_ hon hoff
      refine ⟨_, rfl, fun K hK => ?_⟩
      have q2 : a.tmps[29]? = some (.int .i64 65533) := by rw [ha]; exact putSel_on (e := (2, 29, .int .i64 65533)) 2 rfl rfl (hon 2 (by kernel_rfl)) rfl
      replace ha := Lib.hid ha
      have HI := Lib.hid hI
      clear hI
      refine goes_ Try.func16 (by kernel_rfl) rfl #[.int .i64 65533] (by rfl) rfl rfl (by first | (simp only [List.map_toArray, List.map_cons, List.map_nil, Act.eval, Array.getD_eq_getD_getElem?, Option.getD_some, q2]; done) | (simp only [List.map_toArray, List.map_cons, List.map_nil, Act.eval, Array.getD_eq_getD_getElem?, Option.getD_some, q2]; rfl)) ?_
      refine (mkvar_any 65533 w').mono ?_
      rintro e w2 ⟨rfl, hb2⟩
      exact ⟨_, rfl, hK.out _ _ ⟨Ra, Rr, X, (by rw [ha.out]; exact putSel_upk 3 hb_ rfl rfl rfl), (by have h := HI.out.later hb2; have eb5 : up b 3 5 = b 5 := up_ne (by decide); have eb6 : up b 3 6 = b 6 := up_ne (by decide); have eb11 : up b 3 11 = b 11 := up_ne (by decide); have eb12 : up b 3 12 = b 12 := up_ne (by decide); rw [eb5, eb6, eb11, eb12]; exact h)⟩⟩
    refine steps_cons ?_ ?_
    · rintro b a w' ⟨Ra, Rr, X, ha, hI⟩ hb_ hon hoff
      refine ⟨_, rfl, fun K hK => ?_⟩
      replace ha := Lib.hid ha
      have HI := Lib.hid hI
      clear hI
      refine goes_ Try.func17 (by kernel_rfl) rfl #[.int .i64 0] (by rfl) rfl rfl (by first | rfl | (simp [Act.eval]; done)) ?_
      refine (mkint_any 0 w').mono ?_
      rintro e w2 ⟨rfl, hb2⟩
      exact ⟨_, rfl, hK.out _ _ ⟨Ra, Rr, X, (by rw [ha.out]; exact putSel_upk 4 hb_ rfl rfl rfl), (by have h := HI.out.later hb2; have eb5 : up b 4 5 = b 5 := up_ne (by decide); have eb6 : up b 4 6 = b 6 := up_ne (by decide); have eb11 : up b 4 11 = b 11 := up_ne (by decide); have eb12 : up b 4 12 = b 12 := up_ne (by decide); rw [eb5, eb6, eb11, eb12]; exact h)⟩⟩
    refine steps_cons ?_ ?_
    · rintro b a w' ⟨Ra, Rr, X, ha, hI⟩ hb_ hon hoff
      refine ⟨_, rfl, fun K hK => ?_⟩
      have q1 : a.tmps[28]? = some (.int .i64 65532) := by rw [ha]; exact putSel_on (e := (1, 28, .int .i64 65532)) 1 rfl rfl (hon 1 (by kernel_rfl)) rfl
      have q3 : a.tmps[30]? = some (.agg #[.bool true, .int .i64 65533]) := by rw [ha]; exact putSel_on (e := (3, 30, .agg #[.bool true, .int .i64 65533])) 3 rfl rfl (hon 3 (by kernel_rfl)) rfl
      have q4 : a.tmps[31]? = some (.agg #[.bool false, .int .i64 0]) := by rw [ha]; exact putSel_on (e := (4, 31, .agg #[.bool false, .int .i64 0])) 4 rfl rfl (hon 4 (by kernel_rfl)) rfl
      replace ha := Lib.hid ha
      have HI := Lib.hid hI
      clear hI
      refine goes_ Try.func15 (by kernel_rfl) rfl #[.int .i64 65532, .agg #[.bool true, .int .i64 65533], .agg #[.bool false, .int .i64 0]] (by rfl) rfl rfl (by first | (simp only [List.map_toArray, List.map_cons, List.map_nil, Act.eval, Array.getD_eq_getD_getElem?, Option.getD_some, q1, q3, q4]; done) | (simp only [List.map_toArray, List.map_cons, List.map_nil, Act.eval, Array.getD_eq_getD_getElem?, Option.getD_some, q1, q3, q4]; rfl)) ?_
      refine (mkapp_any 65532 true false 65533 0 w').mono ?_
      rintro e w2 ⟨g_, rfl, hge, hcells, hb2⟩
      exact ⟨_, rfl, hK.out _ _ ⟨g_, Rr, X, (by rw [ha.out]; exact putSel_upk 5 hb_ rfl rfl rfl), HI.out.call 0 hb2 ⟨hcells, fun k hk => by cases hk; exact ⟨heap_lt hcells, hge⟩⟩ (by intro j hj hc; have eb6 : up b 5 6 = b 6 := up_ne (by decide); have eb11 : up b 5 11 = b 11 := up_ne (by decide); have eb12 : up b 5 12 = b 12 := up_ne (by decide); have eb5 : up b 5 5 = true := up_self _ _; match j, hj, hc with | 0, hj, hc => exact absurd rfl hj | 1, hj, hc => (change (up b 5 6) = true at hc; rw [eb6, hoff 6 (by kernel_rfl)] at hc; simp at hc) | 2, hj, hc => (change (up b 5 11 && !up b 5 12) = true at hc; rw [eb11, eb12] at hc; exact ⟨hc, rfl⟩) | 3, hj, hc => (change (up b 5 12) = true at hc; rw [eb12, hoff 12 (by kernel_rfl)] at hc; simp at hc) | j + 4, hj, hc => simp at hc)⟩⟩
    refine steps_cons ?_ ?_
    · rintro b a w' ⟨Ra, Rr, X, ha, hI⟩ hb_ hon hoff
      refine ⟨_, rfl, fun K hK => ?_⟩
      have q0 : a.tmps[27]? = some (.agg #[.int .i64 65533, .int .i64 9, .int .i64 nn, .slice none 0 0, .slice none 0 0, .slice none 0 0]) := by rw [ha]; exact putSel_on (e := (0, 27, .agg #[.int .i64 65533, .int .i64 9, .int .i64 nn, .slice none 0 0, .slice none 0 0, .slice none 0 0])) 0 rfl rfl (hon 0 (by kernel_rfl)) rfl
      have q5 : a.tmps[32]? = some (.agg #[.int .i64 65532, .int .i64 6, .int .i64 0, .slice (some ⟨Ra, 0, none⟩) 2 2, .slice none 0 0, .slice none 0 0]) := by rw [ha]; exact putSel_on (e := (5, 32, .agg #[.int .i64 65532, .int .i64 6, .int .i64 0, .slice (some ⟨Ra, 0, none⟩) 2 2, .slice none 0 0, .slice none 0 0])) 5 rfl rfl (hon 5 (by kernel_rfl)) rfl
      replace ha := Lib.hid ha
      have HI := Lib.hid hI
      clear hI
      refine value_ (w1 := w'.alloc (.cells [.int .i64 65533, .int .i64 9, .int .i64 nn, .slice none 0 0, .slice none 0 0, .slice none 0 0, .int .i64 65532, .int .i64 6, .int .i64 0, .slice (some ⟨Ra, 0, none⟩) 2 2, .slice none 0 0, .slice none 0 0].toArray 54)) (v := .slice (some ⟨w'.heap.size, 0, none⟩) 2 2) (by rfl) rfl ?_ ?_
      · go_simp
        try rfl
      exact hK.out _ _ ⟨Ra, w'.heap.size, X, (by rw [ha.out]; exact (((putSel_upk 6 hb_ rfl rfl rfl).trans (putSel_alt 9 rfl rfl ((up_ne (by decide)).trans (hoff 9 (by kernel_rfl))))).trans (putSel_alt 10 rfl rfl ((up_ne (by decide)).trans (hoff 10 (by kernel_rfl)))))), HI.out.new 1 rfl (by intro j hj hc; have eb5 : up b 6 5 = b 5 := up_ne (by decide); have eb11 : up b 6 11 = b 11 := up_ne (by decide); have eb12 : up b 6 12 = b 12 := up_ne (by decide); have eb6 : up b 6 6 = true := up_self _ _; match j, hj, hc with | 0, hj, hc => (change (up b 6 5) = true at hc; rw [eb5] at hc; exact ⟨hc, rfl⟩) | 1, hj, hc => exact absurd rfl hj | 2, hj, hc => (change (up b 6 11 && !up b 6 12) = true at hc; rw [eb11, eb12] at hc; exact ⟨hc, rfl⟩) | 3, hj, hc => (change (up b 6 12) = true at hc; rw [eb12, hoff 12 (by kernel_rfl)] at hc; simp at hc) | j + 4, hj, hc => simp at hc)⟩
    refine steps_cons ?_ ?_
    · rintro b a w' ⟨Ra, Rr, X, ha, hI⟩ hb_ hon hoff
      refine ⟨_, rfl, fun K hK => ?_⟩
      have m6 : a.tmps[6]? = some (.int .i64 65532) := by rw [ha]; exact (putSel_off rfl).trans rfl
      replace ha := Lib.hid ha
      have HI := Lib.hid hI
      clear hI
      refine value_ (w1 := w') (v := .int .i64 65532) (by rfl) rfl ?_ ?_
      · go_simp
        try rfl
      exact hK.out _ _ ⟨Ra, Rr, X, (by rw [ha.out]; exact putSel_upk 7 hb_ rfl rfl rfl), (by have h := HI.out; have eb5 : up b 7 5 = b 5 := up_ne (by decide); have eb6 : up b 7 6 = b 6 := up_ne (by decide); have eb11 : up b 7 11 = b 11 := up_ne (by decide); have eb12 : up b 7 12 = b 12 := up_ne (by decide); rw [eb5, eb6, eb11, eb12]; exact h)⟩
    refine steps_cons ?_ ?_
    · rintro b a w' ⟨Ra, Rr, X, ha, hI⟩ hb_ hon hoff
      refine ⟨_, rfl, fun K hK => ?_⟩
      have q7 : a.tmps[34]? = some (.int .i64 65532) := by rw [ha]; exact putSel_on (e := (7, 34, .int .i64 65532)) 7 rfl rfl (hon 7 (by kernel_rfl)) rfl
      replace ha := Lib.hid ha
      have HI := Lib.hid hI
      clear hI
      refine goes_ Try.func16 (by kernel_rfl) rfl #[.int .i64 65532] (by rfl) rfl rfl (by first | (simp only [List.map_toArray, List.map_cons, List.map_nil, Act.eval, Array.getD_eq_getD_getElem?, Option.getD_some, q7]; done) | (simp only [List.map_toArray, List.map_cons, List.map_nil, Act.eval, Array.getD_eq_getD_getElem?, Option.getD_some, q7]; rfl)) ?_
      refine (mkvar_any 65532 w').mono ?_
      rintro e w2 ⟨rfl, hb2⟩
      exact ⟨_, rfl, hK.out _ _ ⟨Ra, Rr, X, (by rw [ha.out]; exact putSel_upk 8 hb_ rfl rfl rfl), (by have h := HI.out.later hb2; have eb5 : up b 8 5 = b 5 := up_ne (by decide); have eb6 : up b 8 6 = b 6 := up_ne (by decide); have eb11 : up b 8 11 = b 11 := up_ne (by decide); have eb12 : up b 8 12 = b 12 := up_ne (by decide); rw [eb5, eb6, eb11, eb12]; exact h)⟩⟩
    refine steps_cons ?_ ?_
    · rintro b a w' ⟨Ra, Rr, X, ha, hI⟩ hb_ hon hoff
      refine ⟨_, rfl, fun K hK => ?_⟩
      have q6 : a.tmps[33]? = some (.slice (some ⟨Rr, 0, none⟩) 2 2) := by rw [ha]; exact putSel_on (e := (6, 33, .slice (some ⟨Rr, 0, none⟩) 2 2)) 6 rfl rfl (hon 6 (by kernel_rfl)) rfl
      have q8 : a.tmps[35]? = some (.agg #[.bool true, .int .i64 65532]) := by rw [ha]; exact putSel_on (e := (8, 35, .agg #[.bool true, .int .i64 65532])) 8 rfl rfl (hon 8 (by kernel_rfl)) rfl
      replace ha := Lib.hid ha
      have HI := Lib.hid hI
      clear hI
      refine value_ (w1 := w') (v := .agg #[.slice (some ⟨Rr, 0, none⟩) 2 2, .bool true, .int .i64 65532]) (by rfl) rfl ?_ ?_
      · go_simp
        try rfl
      exact hK.out _ _ ⟨Ra, Rr, X, (by rw [ha.out]; exact putSel_upk 9 hb_ rfl rfl rfl), (by have h := HI.out; have eb5 : up b 9 5 = b 5 := up_ne (by decide); have eb6 : up b 9 6 = b 6 := up_ne (by decide); have eb11 : up b 9 11 = b 11 := up_ne (by decide); have eb12 : up b 9 12 = b 12 := up_ne (by decide); rw [eb5, eb6, eb11, eb12]; exact h)⟩
    refine steps_cons ?_ ?_
    · rintro b a w' ⟨Ra, Rr, X, ha, hI⟩ hb_ hon hoff
      refine ⟨_, rfl, fun K hK => ?_⟩
      have q9 : a.tmps[36]? = some (.agg #[.slice (some ⟨Rr, 0, none⟩) 2 2, .bool true, .int .i64 65532]) := by rw [ha]; exact putSel_on (e := (9, 36, .agg #[.slice (some ⟨Rr, 0, none⟩) 2 2, .bool true, .int .i64 65532])) 9 rfl rfl (hon 9 (by kernel_rfl)) rfl
      replace ha := Lib.hid ha
      have HI := Lib.hid hI
      clear hI
      refine value_ (w1 := w') (v := .agg #[.slice none 0 0, .slice (some ⟨Rr, 0, none⟩) 2 2, .bool true, .int .i64 65532]) (by rfl) rfl ?_ ?_
      · go_simp
        try rfl
      exact hK.out _ _ ⟨Ra, Rr, X, (by rw [ha.out]; exact putSel_upk 10 hb_ rfl rfl rfl), (by have h := HI.out; have eb5 : up b 10 5 = b 5 := up_ne (by decide); have eb6 : up b 10 6 = b 6 := up_ne (by decide); have eb11 : up b 10 11 = b 11 := up_ne (by decide); have eb12 : up b 10 12 = b 12 := up_ne (by decide); rw [eb5, eb6, eb11, eb12]; exact h)⟩
    refine steps_cons ?_ ?_
    · rintro b a w' ⟨Ra, Rr, X, ha, hI⟩ hb_ hon hoff
      refine ⟨_, rfl, fun K hK => ?_⟩
      replace ha := Lib.hid ha
      have HI := Lib.hid hI
      clear hI
      refine value_ (w1 := w'.alloc (.cells #[.slice none 0 0, .slice none 0 0, .bool false, .int .i64 0] 29)) (v := .pointer (some ⟨w'.heap.size, 0, none⟩)) (by rfl) rfl ?_ ?_
      · go_simp
        try rfl
      exact hK.out _ _ ⟨Ra, Rr, w'.heap.size, (by rw [ha.out]; exact putSel_upk 11 hb_ rfl rfl rfl), HI.out.new 2 rfl (by intro j hj hc; have eb5 : up b 11 5 = b 5 := up_ne (by decide); have eb6 : up b 11 6 = b 6 := up_ne (by decide); have eb12 : up b 11 12 = b 12 := up_ne (by decide); have eb11 : up b 11 11 = true := up_self _ _; match j, hj, hc with | 0, hj, hc => (change (up b 11 5) = true at hc; rw [eb5] at hc; exact ⟨hc, rfl⟩) | 1, hj, hc => (change (up b 11 6) = true at hc; rw [eb6] at hc; exact ⟨hc, rfl⟩) | 2, hj, hc => exact absurd rfl hj | 3, hj, hc => (change (up b 11 12) = true at hc; rw [eb12, hoff 12 (by kernel_rfl)] at hc; simp at hc) | j + 4, hj, hc => simp at hc)⟩
    refine steps_cons ?_ ?_
    · rintro b a w' ⟨Ra, Rr, X, ha, hI⟩ hb_ hon hoff
      refine ⟨_, rfl, fun K hK => ?_⟩
      have q10 : a.tmps[37]? = some (.agg #[.slice none 0 0, .slice (some ⟨Rr, 0, none⟩) 2 2, .bool true, .int .i64 65532]) := by rw [ha]; exact putSel_on (e := (10, 37, .agg #[.slice none 0 0, .slice (some ⟨Rr, 0, none⟩) 2 2, .bool true, .int .i64 65532])) 10 rfl rfl (hon 10 (by kernel_rfl)) rfl
      have q11 : a.tmps[8]? = some (.pointer (some ⟨X, 0, none⟩)) := by rw [ha]; exact putSel_on (e := (11, 8, .pointer (some ⟨X, 0, none⟩))) 11 rfl rfl (hon 11 (by kernel_rfl)) rfl
      obtain ⟨y0, y1, y2, y3, y4⟩ := cells4 ((hI.hold 2 (by show (b 11 && !b 12) = true; rw [hon 11 (by kernel_rfl), hb_]; try rfl)).1)
      replace ha := Lib.hid ha
      have HI := Lib.hid hI
      clear hI
      refine skip_ (w1 := set4 w' X (.slice none 0 0) (.slice (some ⟨Rr, 0, none⟩) 2 2) (.bool true) (.int .i64 65532)) (by rfl) rfl ?_ ?_
      · unfold set4
        go_simp
        try rfl
      exact hK.out _ _ ⟨Ra, Rr, X, (by rw [ha.out]; exact (putSel_skipY rfl).symm), HI.out.turn 2 3 (by show (b 11 && !b 12) = true; rw [hon 11 (by kernel_rfl), hb_]; try rfl) rfl (chg_set4 _ _ _ _ _ _) rfl (set4_self (HI.out.hold 2 (by show (b 11 && !b 12) = true; rw [hon 11 (by kernel_rfl), hb_]; try rfl)).1 _ _ _ _) (by intro j hj hc; have eb5 : up b 12 5 = b 5 := up_ne (by decide); have eb6 : up b 12 6 = b 6 := up_ne (by decide); have eb11 : up b 12 11 = b 11 := up_ne (by decide); have eb12 : up b 12 12 = true := up_self _ _; match j, hj, hc with | 0, hj, hc => (change (up b 12 5) = true at hc; rw [eb5] at hc; exact ⟨hc, rfl, by decide⟩) | 1, hj, hc => (change (up b 12 6) = true at hc; rw [eb6] at hc; exact ⟨hc, rfl, by decide⟩) | 2, hj, hc => (change (up b 12 11 && !up b 12 12) = true at hc; rw [eb11, eb12] at hc; simp at hc) | 3, hj, hc => exact absurd rfl hj | j + 4, hj, hc => simp at hc)⟩
    exact steps_nil
  rintro b a w' hall ⟨Ra, Rr, X, ha, hI⟩
  have hl : ∀ j, j ≤ 12 → b j = true := fun j hj => hall j (by
    have : j = 0 ∨ j = 1 ∨ j = 2 ∨ j = 3 ∨ j = 4 ∨ j = 5 ∨ j = 6 ∨ j = 7 ∨ j = 8 ∨ j = 9 ∨ j = 10 ∨ j = 11 ∨ j = 12 := by omega
    rcases this with rfl | rfl | rfl | rfl | rfl | rfl | rfl | rfl | rfl | rfl | rfl | rfl | rfl <;> rfl)
  have b0 := hl 0 (by decide)
  have b1 := hl 1 (by decide)
  have b2 := hl 2 (by decide)
  have b3 := hl 3 (by decide)
  have b4 := hl 4 (by decide)
  have b5 := hl 5 (by decide)
  have b6 := hl 6 (by decide)
  have b7 := hl 7 (by decide)
  have b8 := hl 8 (by decide)
  have b9 := hl 9 (by decide)
  have b10 := hl 10 (by decide)
  have b11 := hl 11 (by decide)
  have b12 := hl 12 (by decide)
  have f0 := (hI.hold 0 (by show (b 5) = true; rw [b5]; try rfl)).1
  have f1 := (hI.hold 1 (by show (b 6) = true; rw [b6]; try rfl)).1
  have f3 := (hI.hold 3 (by show (b 12) = true; rw [b12]; try rfl)).1
  have hbel := hI.bel
  have HREG := Lib.hid hI
  clear hI
  subst ha
  simp only [putSel, b0, b1, b2, b3, b4, b5, b6, b7, b8, b9, b10, b11, if_true, Act.put, List.setIfInBounds_toArray, List.set_cons_zero, List.set_cons_succ, Exit.then]
  exact HK0.out _ _ (HEND.out _ Ra Rr X hbel f0 f1 f3 ((HREG.out.hold 0 (by show (b 5) = true; rw [b5]; try rfl)).2 _ rfl).1 ((HREG.out.hold 1 (by show (b 6) = true; rw [b6]; try rfl)).2 _ rfl).1 ((HREG.out.hold 3 (by show (b 12) = true; rw [b12]; try rfl)).2 _ rfl).1 (fun e => HREG.out.apart 3 1 (by decide) (by show (b 12) = true; rw [b12]; try rfl) (by show (b 6) = true; rw [b6]; try rfl) _ rfl e) (fun e => HREG.out.apart 3 0 (by decide) (by show (b 12) = true; rw [b12]; try rfl) (by show (b 5) = true; rw [b5]; try rfl) _ rfl e) (fun e => HREG.out.apart 1 0 (by decide) (by show (b 6) = true; rw [b6]; try rfl) (by show (b 5) = true; rw [b5]; try rfl) _ rfl e) _ _ _ _ _ _ _ _ _ _ _ _ _ _ _ _ _ _ _ _ _ _ _ _ _ _ _ _ _ _ _ _ _ _ _ _ _ _ _ _ _ _ _ _ _ _ _ _ _ _ _ _ _ _ _ _ _ _ _ _ _ _ _ _ _ _ _ _ _ _ _ _ _ _)
open Go.Proofs.YtnobggabjpcbfaaW.PrintWords Go.Proofs.YtnobggabjpcbfaaW.PrintLast in
set_option maxRecDepth 100000 in
set_option maxHeartbeats 16000000 in
theorem mn_build6 {W V V0 : World} {X2 X8 Ra Rr L ci nf cf n1 d1 : Nat} {Ai Af A1 : Option Addr} {b1 : Bool} {k1 nn : Int} {news : List Value} (hnl : news.length = nf * 5) (h56 : (nf + 1) * 56 ≤ 140737488355328) (hb0 : Below V.heap.size V V0)
    (ha : V0.heap[Ra]? = some (.cells #[.bool true, .int .i64 65533, .bool false, .int .i64 0] 25 (0, 0))) (hr : V0.heap[Rr]? = some (.cells [.int .i64 65533, .int .i64 9, .int .i64 nn, .slice none 0 0, .slice none 0 0, .slice none 0 0, .int .i64 65532, .int .i64 6, .int .i64 0, .slice (some ⟨Ra, 0, none⟩) 2 2, .slice none 0 0, .slice none 0 0].toArray 54 (0, 0))) (h8 : V0.heap[X8]? = some (.cells #[.slice none 0 0, .slice (some ⟨Rr, 0, none⟩) 2 2, .bool true, .int .i64 65532] 29 (0, 0))) (g1 : V.heap.size ≤ Ra) (g2 : V.heap.size ≤ Rr) (g3 : V.heap.size ≤ X8) (n1_ : X8 ≠ Rr) (n2_ : X8 ≠ Ra) (n3_ : Rr ≠ Ra)
    (hS : ∀ V2, Below V.heap.size V V2 → V2.cell? ⟨X2, 0, none⟩ = some (.slice Af nf cf) ∧ V2.cell? ⟨X2, 1, none⟩ = some (.slice A1 n1 d1) ∧ V2.cell? ⟨X2, 2, none⟩ = some (.bool b1) ∧ V2.cell? ⟨X2, 3, none⟩ = some (.int .i64 k1)) (hrow : ∀ V2, Below V.heap.size V V2 → RowI V2 Af news) (hone : ∀ u ∈ news, u.oneCell' = true)
    (hend : ∀ (V2 : World) (An : Option Addr) (cn : Nat), Below V.heap.size V V2 → V2.heap[Ra]? = some (.cells #[.bool true, .int .i64 65533, .bool false, .int .i64 0] 25 (0, 0)) → V2.heap[Rr]? = some (.cells [.int .i64 65533, .int .i64 9, .int .i64 nn, .slice none 0 0, .slice none 0 0, .slice none 0 0, .int .i64 65532, .int .i64 6, .int .i64 0, .slice (some ⟨Ra, 0, none⟩) 2 2, .slice none 0 0, .slice none 0 0].toArray 54 (0, 0)) → V2.heap[X8]? = some (.cells #[.slice An (nf + 1) cn, .slice (some ⟨Rr, 0, none⟩) 2 2, .bool true, .int .i64 65532] 29 (0, 0)) → V2.ownsRow V.heap.size 42 5 (.slice An (nf + 1) cn) (nf + 1) (news ++ [.int .i64 65535, .int .i64 65534, .slice A1 n1 d1, .bool b1, .int .i64 k1]) → ∀ (y0 y3 y4 y5 y6 y7 y9 y10 y11 y12 y13 y14 y15 y16 y17 y18 y19 y20 y21 y22 y23 y24 y25 y26 y27 y28 y29 y30 y31 y32 y33 y34 y35 y36 y37 y38 y39 y40 y41 y42 y43 y44 y45 y46 y47 y48 y49 y50 y51 y52 y53 y54 y55 y56 y57 y58 y59 y60 y61 y62 y63 y64 y65 y66 y67 y68 y69 y70 y71 y72 y73 y74 y75 y76 : Value), mnT7.wp Try.prog (bodyPost Try.prog Try.f6 (BoolBelow true W)) { tmps := #[y0, .slice Ai L ci, .pointer (some ⟨X2, 0, none⟩), y3, y4, y5, y6, y7, .pointer (some ⟨X8, 0, none⟩), y9, y10, y11, y12, y13, y14, y15, y16, y17, y18, y19, y20, y21, y22, y23, y24, y25, y26, y27, y28, y29, y30, y31, y32, y33, y34, y35, y36, y37, y38, y39, y40, y41, y42, y43, y44, y45, y46, y47, y48, y49, y50, y51, y52, y53, y54, y55, y56, y57, y58, y59, y60, y61, y62, y63, y64, y65, y66, y67, y68, y69, y70, y71, y72, y73, y74, y75, y76], defers := [] } V2) (u0 u3 u4 u5 u6 u7 u9 u10 u11 u12 u13 u14 u15 u16 u17 u18 u19 u20 u21 u22 u23 u24 u25 u26 u27 u28 u29 u30 u31 u32 u33 u34 u35 u36 u37 u38 u39 u40 u41 u42 u43 u44 u45 u46 u47 u48 u49 u50 u51 u52 u53 u54 u55 u56 u57 u58 u59 u60 u61 u62 u63 u64 u65 u66 u67 u68 u69 u70 u71 u72 u73 u74 u75 u76 : Value) :
    ∀ K : Act → World → Prop, (∀ a w, mnT7.wp Try.prog (bodyPost Try.prog Try.f6 (BoolBelow true W)) a w → K a w) → mnR6.wp Try.prog (Exit.then K (bodyPost Try.prog Try.f6 (BoolBelow true W))) { tmps := #[u0, .slice Ai L ci, .pointer (some ⟨X2, 0, none⟩), u3, u4, u5, u6, u7, .pointer (some ⟨X8, 0, none⟩), u9, u10, u11, u12, u13, u14, u15, u16, u17, u18, u19, u20, u21, u22, u23, u24, u25, u26, u27, u28, u29, u30, u31, u32, u33, u34, u35, u36, u37, u38, u39, u40, u41, u42, u43, u44, u45, u46, u47, u48, u49, u50, u51, u52, u53, u54, u55, u56, u57, u58, u59, u60, u61, u62, u63, u64, u65, u66, u67, u68, u69, u70, u71, u72, u73, u74, u75, u76], defers := [] } V0 := by
  intro K hK0
  have HK0 := Lib.hid hK0
  clear hK0
  have HEND := Lib.hid hend
  have HS := Lib.hid hS
  have HROW := Lib.hid hrow
  have HONE := Lib.hid hone
  have HBEG := Lib.hid (fun (c : List Bool) (f : List FactW) (e0 : f[0]?.getD nilFa = blkFa X8 (.cells #[.slice none 0 0, .slice (some ⟨Rr, 0, none⟩) 2 2, .bool true, .int .i64 65532] 29 (0, 0))) (e1 : f[1]?.getD nilFa = blkFa Rr (.cells [.int .i64 65533, .int .i64 9, .int .i64 nn, .slice none 0 0, .slice none 0 0, .slice none 0 0, .int .i64 65532, .int .i64 6, .int .i64 0, .slice (some ⟨Ra, 0, none⟩) 2 2, .slice none 0 0, .slice none 0 0].toArray 54 (0, 0))) (e2 : f[2]?.getD nilFa = blkFa Ra (.cells #[.bool true, .int .i64 65533, .bool false, .int .i64 0] 25 (0, 0))) (hc : ∀ i : Nat, 3 ≤ i → c[i]?.getD false = false) => (show Reg V c f V0.drew from Reg.three hb0.drew h8 hr ha g3 g2 g1 n1_ n2_ n3_ e0 e1 e2 hc))
  obtain ⟨inf0, hinf, hz0, hz1, hz2⟩ := info_parts infoFun
  clear hS hrow hone hend hb0 ha hr h8 g1 g2 g3 n1_ n2_ n3_
  unfold mnR6 Try.f6
  dsimp only
  refine start_ (n := 12) (S := fun w' => True) (ds := []) #[false, false, false, false, false, false, false, false, false, false, false, false] (by kernel_rfl) rfl rfl trivial (fun hHeld => ?_)
  clear hHeld
  refine inv_at (B := [0, 1, 0, 4, 15, 0, 32, 96, 224, 511, 1023, 2047]) [0, 1, 2, 3, 4, 5, 6, 7, 8, 9, 10, 11] (fun a0_ b a w' => ∃ v1 R2 An cn, a = putSel a0_ b [(0, 38, .pointer (some ⟨X8, 0, none⟩)), (1, 39, .slice none 0 0), (2, 40, .pointer (some ⟨X2, 0, none⟩)), (3, 41, .slice Af nf cf), (4, 42, v1), (5, 43, .pointer (some ⟨X2, 1, none⟩)), (6, 44, .agg #[.slice A1 n1 d1, .bool b1, .int .i64 k1]), (7, 45, .agg #[.int .i64 65535, .int .i64 65534, .slice A1 n1 d1, .bool b1, .int .i64 k1]), (8, 46, .slice (some ⟨R2, 0, none⟩) 1 1), (9, 47, .slice An (nf + 1) cn), (10, 48, .pointer (some ⟨X8, 0, none⟩))] ∧ Reg V [(!b 11), (true), (true), (b 4 && !b 9), (b 8 && !b 9), (b 9), (b 11)] [blkFa X8 (.cells #[.slice none 0 0, .slice (some ⟨Rr, 0, none⟩) 2 2, .bool true, .int .i64 65532] 29 (0, 0)), blkFa Rr (.cells [.int .i64 65533, .int .i64 9, .int .i64 nn, .slice none 0 0, .slice none 0 0, .slice none 0 0, .int .i64 65532, .int .i64 6, .int .i64 0, .slice (some ⟨Ra, 0, none⟩) 2 2, .slice none 0 0, .slice none 0 0].toArray 54 (0, 0)), blkFa Ra (.cells #[.bool true, .int .i64 65533, .bool false, .int .i64 0] 25 (0, 0)), ownFa V.heap.size 42 5 v1 nf news, blkFa R2 (.cells [.int .i64 65535, .int .i64 65534, .slice A1 n1 d1, .bool b1, .int .i64 k1].toArray 42 (0, 0)), ownFa V.heap.size 42 5 (.slice An (nf + 1) cn) (nf + 1) (news ++ [.int .i64 65535, .int .i64 65534, .slice A1 n1 d1, .bool b1, .int .i64 k1]), blkFa X8 (.cells #[.slice An (nf + 1) cn, .slice (some ⟨Rr, 0, none⟩) 2 2, .bool true, .int .i64 65532] 29 (0, 0))] w') rfl (by kernel_rfl) (by kernel_rfl) (by kernel_rfl) ?_ ?_ ?_
  · exact ⟨.bool false, 0, none, 0, by simp only [putSel, Bool.false_eq_true, if_false], HBEG.out _ _ rfl rfl rfl (fun i hi => by match i, hi with | 3, _ => rfl | 4, _ => rfl | 5, _ => rfl | 6, _ => rfl | i + 7, _ => simp)⟩
  · skip
    refine steps_cons ?_ ?_
    · rintro b a w' ⟨v1, R2, An, cn, ha, hI⟩ hb_ hon hoff
      refine ⟨_, rfl, fun K hK => ?_⟩
      have m8 : a.tmps[8]? = some (.pointer (some ⟨X8, 0, none⟩)) := by rw [ha]; exact (putSel_off rfl).trans rfl
      replace ha := Lib.hid ha
      have HI := Lib.hid hI
      clear hI
      refine value_ (w1 := w') (v := .pointer (some ⟨X8, 0, none⟩)) (by rfl) rfl ?_ ?_
      · go_simp
        try rfl
      exact hK.out _ _ ⟨v1, R2, An, cn, (by rw [ha.out]; exact putSel_upk 0 hb_ rfl rfl rfl), (by have h := HI.out; have eb4 : up b 0 4 = b 4 := up_ne (by decide); have eb8 : up b 0 8 = b 8 := up_ne (by decide); have eb9 : up b 0 9 = b 9 := up_ne (by decide); have eb11 : up b 0 11 = b 11 := up_ne (by decide); rw [eb4, eb8, eb9, eb11]; exact h)⟩
    refine steps_cons ?_ ?_
    · rintro b a w' ⟨v1, R2, An, cn, ha, hI⟩ hb_ hon hoff
      refine ⟨_, rfl, fun K hK => ?_⟩
      have q0 : a.tmps[38]? = some (.pointer (some ⟨X8, 0, none⟩)) := by rw [ha]; exact putSel_on (e := (0, 38, .pointer (some ⟨X8, 0, none⟩))) 0 rfl rfl (hon 0 (by kernel_rfl)) rfl
      obtain ⟨y0, y1, y2, y3, y4⟩ := cells4 ((hI.hold 0 (by show (!b 11) = true; rw [hoff 11 (by kernel_rfl)]; try rfl)).1)
      replace ha := Lib.hid ha
      have HI := Lib.hid hI
      clear hI
      refine value_ (w1 := w') (v := .slice none 0 0) (by rfl) rfl ?_ ?_
      · go_simp
        try rfl
      exact hK.out _ _ ⟨v1, R2, An, cn, (by rw [ha.out]; exact putSel_upk 1 hb_ rfl rfl rfl), (by have h := HI.out; have eb4 : up b 1 4 = b 4 := up_ne (by decide); have eb8 : up b 1 8 = b 8 := up_ne (by decide); have eb9 : up b 1 9 = b 9 := up_ne (by decide); have eb11 : up b 1 11 = b 11 := up_ne (by decide); rw [eb4, eb8, eb9, eb11]; exact h)⟩
    refine steps_cons ?_ ?_
    · rintro b a w' ⟨v1, R2, An, cn, ha, hI⟩ hb_ hon hoff
      refine ⟨_, rfl, fun K hK => ?_⟩
      have m2 : a.tmps[2]? = some (.pointer (some ⟨X2, 0, none⟩)) := by rw [ha]; exact (putSel_off rfl).trans rfl
      replace ha := Lib.hid ha
      have HI := Lib.hid hI
      clear hI
      refine value_ (w1 := w') (v := .pointer (some ⟨X2, 0, none⟩)) (by rfl) rfl ?_ ?_
      · go_simp
        try rfl
      exact hK.out _ _ ⟨v1, R2, An, cn, (by rw [ha.out]; exact putSel_upk 2 hb_ rfl rfl rfl), (by have h := HI.out; have eb4 : up b 2 4 = b 4 := up_ne (by decide); have eb8 : up b 2 8 = b 8 := up_ne (by decide); have eb9 : up b 2 9 = b 9 := up_ne (by decide); have eb11 : up b 2 11 = b 11 := up_ne (by decide); rw [eb4, eb8, eb9, eb11]; exact h)⟩
    refine steps_cons ?_ ?_
    · rintro b a w' ⟨v1, R2, An, cn, ha, hI⟩ hb_ hon hoff
      refine ⟨_, rfl, fun K hK => ?_⟩
      have q2 : a.tmps[40]? = some (.pointer (some ⟨X2, 0, none⟩)) := by rw [ha]; exact putSel_on (e := (2, 40, .pointer (some ⟨X2, 0, none⟩))) 2 rfl rfl (hon 2 (by kernel_rfl)) rfl
      obtain ⟨z0, z1, z2, z3⟩ := HS.out w' hI.bel
      replace ha := Lib.hid ha
      have HI := Lib.hid hI
      clear hI
      refine value_ (w1 := w') (v := .slice Af nf cf) (by rfl) rfl ?_ ?_
      · go_simp
        try rfl
      exact hK.out _ _ ⟨v1, R2, An, cn, (by rw [ha.out]; exact putSel_upk 3 hb_ rfl rfl rfl), (by have h := HI.out; have eb4 : up b 3 4 = b 4 := up_ne (by decide); have eb8 : up b 3 8 = b 8 := up_ne (by decide); have eb9 : up b 3 9 = b 9 := up_ne (by decide); have eb11 : up b 3 11 = b 11 := up_ne (by decide); rw [eb4, eb8, eb9, eb11]; exact h)⟩
    refine steps_cons ?_ ?_
    · rintro b a w' ⟨v1, R2, An, cn, ha, hI⟩ hb_ hon hoff
      refine ⟨_, rfl, fun K hK => ?_⟩
      have q1 : a.tmps[39]? = some (.slice none 0 0) := by rw [ha]; exact putSel_on (e := (1, 39, .slice none 0 0)) 1 rfl rfl (hon 1 (by kernel_rfl)) rfl
      have q3 : a.tmps[41]? = some (.slice Af nf cf) := by rw [ha]; exact putSel_on (e := (3, 41, .slice Af nf cf)) 3 rfl rfl (hon 3 (by kernel_rfl)) rfl
      replace ha := Lib.hid ha
      have HI := Lib.hid hI
      clear hI
      rw [if_pos (by rfl)]
      refine wp_append_row _ _ _ 22 rfl V.heap.size 42 inf0 _ 5 56 Try.underlying22 hinf hz0 hz1 hz2 rfl (by decide) _ 0 [] (by first | (simp only [Act.eval, Array.getD_eq_getD_getElem?, Option.getD_some, q1]; done) | (simp only [Act.eval, Array.getD_eq_getD_getElem?, Option.getD_some, q1]; rfl)) ⟨by simp, .inl ⟨rfl, rfl⟩⟩ Af nf cf news (by first | (simp only [Act.eval, Array.getD_eq_getD_getElem?, Option.getD_some, q3]; done) | (simp only [Act.eval, Array.getD_eq_getD_getElem?, Option.getD_some, q3]; rfl)) hnl (HROW.out _ HI.out.bel) HONE.out (by simp only [maxLen]; omega) (by omega) HI.out.bel.size ?_
      intro v' w2 hown hgr hat
      have hown' := own_size_ (m := nf) (ys := news) (by omega) (by simp) hown
      exact hK.out _ _ ⟨v', R2, An, cn, (by rw [ha.out]; exact putSel_upk 4 hb_ rfl rfl rfl), HI.out.call 3 (below_none hgr) ⟨hown', fun k hk => ⟨own_lt_ hown' k hk, hat.elim (fun h => by have hk' : (none : Option Nat) = some k := h.symm.trans (show v'.ownBlock = some k from hk); cases hk') (fun h => by have hk' : some w'.heap.size = some k := h.symm.trans (show v'.ownBlock = some k from hk); cases hk'; exact Nat.le_refl _)⟩⟩ (by intro j hj hc; have eb8 : up b 4 8 = b 8 := up_ne (by decide); have eb9 : up b 4 9 = b 9 := up_ne (by decide); have eb11 : up b 4 11 = b 11 := up_ne (by decide); have eb4 : up b 4 4 = true := up_self _ _; match j, hj, hc with | 0, hj, hc => (change (!up b 4 11) = true at hc; rw [eb11] at hc; exact ⟨hc, rfl⟩) | 1, hj, hc => exact ⟨hc, rfl⟩ | 2, hj, hc => exact ⟨hc, rfl⟩ | 3, hj, hc => exact absurd rfl hj | 4, hj, hc => (change (up b 4 8 && !up b 4 9) = true at hc; rw [eb8, eb9] at hc; exact ⟨hc, rfl⟩) | 5, hj, hc => (change (up b 4 9) = true at hc; rw [eb9, hoff 9 (by kernel_rfl)] at hc; simp at hc) | 6, hj, hc => (change (up b 4 11) = true at hc; rw [eb11, hoff 11 (by kernel_rfl)] at hc; simp at hc) | j + 7, hj, hc => simp at hc)⟩
    refine steps_cons ?_ ?_
    · rintro b a w' ⟨v1, R2, An, cn, ha, hI⟩ hb_ hon hoff
      refine ⟨_, rfl, fun K hK => ?_⟩
      have m2 : a.tmps[2]? = some (.pointer (some ⟨X2, 0, none⟩)) := by rw [ha]; exact (putSel_off rfl).trans rfl
      replace ha := Lib.hid ha
      have HI := Lib.hid hI
      clear hI
      refine value_ (w1 := w') (v := .pointer (some ⟨X2, 1, none⟩)) (by rfl) rfl ?_ ?_
      · go_simp
        try rfl
      exact hK.out _ _ ⟨v1, R2, An, cn, (by rw [ha.out]; exact putSel_upk 5 hb_ rfl rfl rfl), (by have h := HI.out; have eb4 : up b 5 4 = b 4 := up_ne (by decide); have eb8 : up b 5 8 = b 8 := up_ne (by decide); have eb9 : up b 5 9 = b 9 := up_ne (by decide); have eb11 : up b 5 11 = b 11 := up_ne (by decide); rw [eb4, eb8, eb9, eb11]; exact h)⟩
    refine steps_cons ?_ ?_
    · rintro b a w' ⟨v1, R2, An, cn, ha, hI⟩ hb_ hon hoff
      refine ⟨_, rfl, fun K hK => ?_⟩
      have q5 : a.tmps[43]? = some (.pointer (some ⟨X2, 1, none⟩)) := by rw [ha]; exact putSel_on (e := (5, 43, .pointer (some ⟨X2, 1, none⟩))) 5 rfl rfl (hon 5 (by kernel_rfl)) rfl
      obtain ⟨z0, z1, z2, z3⟩ := HS.out w' hI.bel
      replace ha := Lib.hid ha
      have HI := Lib.hid hI
      clear hI
      refine value_ (w1 := w') (v := .agg #[.slice A1 n1 d1, .bool b1, .int .i64 k1]) (by rfl) rfl ?_ ?_
      · go_simp
        try rfl
      exact hK.out _ _ ⟨v1, R2, An, cn, (by rw [ha.out]; exact putSel_upk 6 hb_ rfl rfl rfl), (by have h := HI.out; have eb4 : up b 6 4 = b 4 := up_ne (by decide); have eb8 : up b 6 8 = b 8 := up_ne (by decide); have eb9 : up b 6 9 = b 9 := up_ne (by decide); have eb11 : up b 6 11 = b 11 := up_ne (by decide); rw [eb4, eb8, eb9, eb11]; exact h)⟩
    refine steps_cons ?_ ?_
    · rintro b a w' ⟨v1, R2, An, cn, ha, hI⟩ hb_ hon hoff
      refine ⟨_, rfl, fun K hK => ?_⟩
      have q6 : a.tmps[44]? = some (.agg #[.slice A1 n1 d1, .bool b1, .int .i64 k1]) := by rw [ha]; exact putSel_on (e := (6, 44, .agg #[.slice A1 n1 d1, .bool b1, .int .i64 k1])) 6 rfl rfl (hon 6 (by kernel_rfl)) rfl
      replace ha := Lib.hid ha
      have HI := Lib.hid hI
      clear hI
      refine value_ (w1 := w') (v := .agg #[.int .i64 65535, .int .i64 65534, .slice A1 n1 d1, .bool b1, .int .i64 k1]) (by rfl) rfl ?_ ?_
      · go_simp
        try rfl
      exact hK.out _ _ ⟨v1, R2, An, cn, (by rw [ha.out]; exact putSel_upk 7 hb_ rfl rfl rfl), (by have h := HI.out; have eb4 : up b 7 4 = b 4 := up_ne (by decide); have eb8 : up b 7 8 = b 8 := up_ne (by decide); have eb9 : up b 7 9 = b 9 := up_ne (by decide); have eb11 : up b 7 11 = b 11 := up_ne (by decide); rw [eb4, eb8, eb9, eb11]; exact h)⟩
    refine steps_cons ?_ ?_
    · rintro b a w' ⟨v1, R2, An, cn, ha, hI⟩ hb_ hon hoff
      refine ⟨_, rfl, fun K hK => ?_⟩
      have q7 : a.tmps[45]? = some (.agg #[.int .i64 65535, .int .i64 65534, .slice A1 n1 d1, .bool b1, .int .i64 k1]) := by rw [ha]; exact putSel_on (e := (7, 45, .agg #[.int .i64 65535, .int .i64 65534, .slice A1 n1 d1, .bool b1, .int .i64 k1])) 7 rfl rfl (hon 7 (by kernel_rfl)) rfl
      replace ha := Lib.hid ha
      have HI := Lib.hid hI
      clear hI
      refine value_ (w1 := w'.alloc (.cells [.int .i64 65535, .int .i64 65534, .slice A1 n1 d1, .bool b1, .int .i64 k1].toArray 42)) (v := .slice (some ⟨w'.heap.size, 0, none⟩) 1 1) (by rfl) rfl ?_ ?_
      · go_simp
        try rfl
      exact hK.out _ _ ⟨v1, w'.heap.size, An, cn, (by rw [ha.out]; exact putSel_upk 8 hb_ rfl rfl rfl), HI.out.new 4 rfl (by intro j hj hc; have eb4 : up b 8 4 = b 4 := up_ne (by decide); have eb9 : up b 8 9 = b 9 := up_ne (by decide); have eb11 : up b 8 11 = b 11 := up_ne (by decide); have eb8 : up b 8 8 = true := up_self _ _; match j, hj, hc with | 0, hj, hc => (change (!up b 8 11) = true at hc; rw [eb11] at hc; exact ⟨hc, rfl⟩) | 1, hj, hc => exact ⟨hc, rfl⟩ | 2, hj, hc => exact ⟨hc, rfl⟩ | 3, hj, hc => (change (up b 8 4 && !up b 8 9) = true at hc; rw [eb4, eb9] at hc; exact ⟨hc, rfl⟩) | 4, hj, hc => exact absurd rfl hj | 5, hj, hc => (change (up b 8 9) = true at hc; rw [eb9, hoff 9 (by kernel_rfl)] at hc; simp at hc) | 6, hj, hc => (change (up b 8 11) = true at hc; rw [eb11, hoff 11 (by kernel_rfl)] at hc; simp at hc) | j + 7, hj, hc => simp at hc)⟩
    refine steps_cons ?_ ?_
    · rintro b a w' ⟨v1, R2, An, cn, ha, hI⟩ hb_ hon hoff
      refine ⟨_, rfl, fun K hK => ?_⟩
      have q4 : a.tmps[42]? = some (v1) := by rw [ha]; exact putSel_on (e := (4, 42, v1)) 4 rfl rfl (hon 4 (by kernel_rfl)) rfl
      have q8 : a.tmps[46]? = some (.slice (some ⟨R2, 0, none⟩) 1 1) := by rw [ha]; exact putSel_on (e := (8, 46, .slice (some ⟨R2, 0, none⟩) 1 1)) 8 rfl rfl (hon 8 (by kernel_rfl)) rfl
      replace ha := Lib.hid ha
      have HI := Lib.hid hI
      clear hI
      rw [if_pos (by rfl)]
      refine wp_append_row _ _ _ 22 rfl V.heap.size 42 inf0 _ 5 56 Try.underlying22 hinf hz0 hz1 hz2 rfl (by decide) _ (nf) (news) (by first | (simp only [Act.eval, Array.getD_eq_getD_getElem?, Option.getD_some, q4]; done) | (simp only [Act.eval, Array.getD_eq_getD_getElem?, Option.getD_some, q4]; rfl)) ((HI.out.hold 3 (by show (b 4 && !b 9) = true; rw [hon 4 (by kernel_rfl), hb_]; try rfl)).1) (some ⟨R2, 0, none⟩) (1) (1) ([.int .i64 65535, .int .i64 65534, .slice A1 n1 d1, .bool b1, .int .i64 k1]) (by first | (simp only [Act.eval, Array.getD_eq_getD_getElem?, Option.getD_some, q8]; done) | (simp only [Act.eval, Array.getD_eq_getD_getElem?, Option.getD_some, q8]; rfl)) rfl (row_blk (HI.out.hold 4 (by show (b 8 && !b 9) = true; rw [hon 8 (by kernel_rfl), hb_]; try rfl)).1) (by intro u hu; simp only [List.mem_cons, List.not_mem_nil, or_false] at hu; rcases hu with rfl | rfl | rfl | rfl | rfl <;> rfl) (by simp only [maxLen]; omega) (by omega) HI.out.bel.size ?_
      intro v' w2 hown hgr hat
      have hown' := own_size_ (m := nf + 1) (ys := news ++ [.int .i64 65535, .int .i64 65534, .slice A1 n1 d1, .bool b1, .int .i64 k1]) rfl rfl hown
      obtain ⟨A_, c_, rfl⟩ := own_slice hown'
      exact hK.out _ _ ⟨v1, R2, A_, c_, (by rw [ha.out]; exact putSel_upk 9 hb_ rfl rfl rfl), HI.out.app 3 5 (by show (b 4 && !b 9) = true; rw [hon 4 (by kernel_rfl), hb_]; try rfl) rfl hgr rfl hown' hat (by intro j hj hc; have eb4 : up b 9 4 = b 4 := up_ne (by decide); have eb8 : up b 9 8 = b 8 := up_ne (by decide); have eb11 : up b 9 11 = b 11 := up_ne (by decide); have eb9 : up b 9 9 = true := up_self _ _; match j, hj, hc with | 0, hj, hc => (change (!up b 9 11) = true at hc; rw [eb11] at hc; exact ⟨hc, rfl, by decide⟩) | 1, hj, hc => exact ⟨hc, rfl, by decide⟩ | 2, hj, hc => exact ⟨hc, rfl, by decide⟩ | 3, hj, hc => (change (up b 9 4 && !up b 9 9) = true at hc; rw [eb4, eb9] at hc; simp at hc) | 4, hj, hc => (change (up b 9 8 && !up b 9 9) = true at hc; rw [eb8, eb9] at hc; simp at hc) | 5, hj, hc => exact absurd rfl hj | 6, hj, hc => (change (up b 9 11) = true at hc; rw [eb11, hoff 11 (by kernel_rfl)] at hc; simp at hc) | j + 7, hj, hc => simp at hc)⟩
    refine steps_cons ?_ ?_
    · rintro b a w' ⟨v1, R2, An, cn, ha, hI⟩ hb_ hon hoff
      refine ⟨_, rfl, fun K hK => ?_⟩
      have m8 : a.tmps[8]? = some (.pointer (some ⟨X8, 0, none⟩)) := by rw [ha]; exact (putSel_off rfl).trans rfl
      replace ha := Lib.hid ha
      have HI := Lib.hid hI
      clear hI
      refine value_ (w1 := w') (v := .pointer (some ⟨X8, 0, none⟩)) (by rfl) rfl ?_ ?_
      · go_simp
        try rfl
      exact hK.out _ _ ⟨v1, R2, An, cn, (by rw [ha.out]; exact putSel_upk 10 hb_ rfl rfl rfl), (by have h := HI.out; have eb4 : up b 10 4 = b 4 := up_ne (by decide); have eb8 : up b 10 8 = b 8 := up_ne (by decide); have eb9 : up b 10 9 = b 9 := up_ne (by decide); have eb11 : up b 10 11 = b 11 := up_ne (by decide); rw [eb4, eb8, eb9, eb11]; exact h)⟩
    refine steps_cons ?_ ?_
    · rintro b a w' ⟨v1, R2, An, cn, ha, hI⟩ hb_ hon hoff
      refine ⟨_, rfl, fun K hK => ?_⟩
      have q9 : a.tmps[47]? = some (.slice An (nf + 1) cn) := by rw [ha]; exact putSel_on (e := (9, 47, .slice An (nf + 1) cn)) 9 rfl rfl (hon 9 (by kernel_rfl)) rfl
      have q10 : a.tmps[48]? = some (.pointer (some ⟨X8, 0, none⟩)) := by rw [ha]; exact putSel_on (e := (10, 48, .pointer (some ⟨X8, 0, none⟩))) 10 rfl rfl (hon 10 (by kernel_rfl)) rfl
      obtain ⟨y0, y1, y2, y3, y4⟩ := cells4 ((hI.hold 0 (by show (!b 11) = true; rw [hb_]; try rfl)).1)
      replace ha := Lib.hid ha
      have HI := Lib.hid hI
      clear hI
      refine skip_ (w1 := w'.setCell ⟨X8, 0, none⟩ (.slice An (nf + 1) cn)) (by rfl) rfl ?_ ?_
      · go_simp
        try rfl
      exact hK.out _ _ ⟨v1, R2, An, cn, (by rw [ha.out]; exact (putSel_skipY rfl).symm), HI.out.turn 0 6 (by show (!b 11) = true; rw [hb_]; try rfl) rfl (chg_set1 _ _ _ _) rfl (by rw [heap_set_self (HI.out.hold 0 (by show (!b 11) = true; rw [hb_]; try rfl)).1 0 _]; rfl) (by intro j hj hc; have eb4 : up b 11 4 = b 4 := up_ne (by decide); have eb8 : up b 11 8 = b 8 := up_ne (by decide); have eb9 : up b 11 9 = b 9 := up_ne (by decide); have eb11 : up b 11 11 = true := up_self _ _; match j, hj, hc with | 0, hj, hc => (change (!up b 11 11) = true at hc; rw [eb11] at hc; simp at hc) | 1, hj, hc => exact ⟨hc, rfl, by decide⟩ | 2, hj, hc => exact ⟨hc, rfl, by decide⟩ | 3, hj, hc => (change (up b 11 4 && !up b 11 9) = true at hc; rw [eb4, eb9] at hc; exact ⟨hc, rfl, by decide⟩) | 4, hj, hc => (change (up b 11 8 && !up b 11 9) = true at hc; rw [eb8, eb9] at hc; exact ⟨hc, rfl, by decide⟩) | 5, hj, hc => (change (up b 11 9) = true at hc; rw [eb9] at hc; exact ⟨hc, rfl, by decide⟩) | 6, hj, hc => exact absurd rfl hj | j + 7, hj, hc => simp at hc)⟩
    exact steps_nil
  rintro b a w' hall ⟨v1, R2, An, cn, ha, hI⟩
  have hl : ∀ j, j ≤ 11 → b j = true := fun j hj => hall j (by
    have : j = 0 ∨ j = 1 ∨ j = 2 ∨ j = 3 ∨ j = 4 ∨ j = 5 ∨ j = 6 ∨ j = 7 ∨ j = 8 ∨ j = 9 ∨ j = 10 ∨ j = 11 := by omega
    rcases this with rfl | rfl | rfl | rfl | rfl | rfl | rfl | rfl | rfl | rfl | rfl | rfl <;> rfl)
  have b0 := hl 0 (by decide)
  have b1 := hl 1 (by decide)
  have b2 := hl 2 (by decide)
  have b3 := hl 3 (by decide)
  have b4 := hl 4 (by decide)
  have b5 := hl 5 (by decide)
  have b6 := hl 6 (by decide)
  have b7 := hl 7 (by decide)
  have b8 := hl 8 (by decide)
  have b9 := hl 9 (by decide)
  have b10 := hl 10 (by decide)
  have b11 := hl 11 (by decide)
  have f1 := (hI.hold 1 (by show (true) = true; try rfl)).1
  have f2 := (hI.hold 2 (by show (true) = true; try rfl)).1
  have f5 := (hI.hold 5 (by show (b 9) = true; rw [b9]; try rfl)).1
  have f6 := (hI.hold 6 (by show (b 11) = true; rw [b11]; try rfl)).1
  have hbel := hI.bel
  have HREG := Lib.hid hI
  clear hI
  subst ha
  simp only [putSel, b0, b1, b2, b3, b4, b5, b6, b7, b8, b9, b10, if_true, Act.put, List.setIfInBounds_toArray, List.set_cons_zero, List.set_cons_succ, Exit.then]
  exact HK0.out _ _ (HEND.out _ An cn hbel f2 f1 f6 f5 _ _ _ _ _ _ _ _ _ _ _ _ _ _ _ _ _ _ _ _ _ _ _ _ _ _ _ _ _ _ _ _ _ _ _ _ _ _ _ _ _ _ _ _ _ _ _ _ _ _ _ _ _ _ _ _ _ _ _ _ _ _ _ _ _ _ _ _ _ _ _ _ _ _)
end Go.Proofs.Ytnobggabjpcbfaa

/-
  The plain laws: what camletref30.Right lets through clos.Right lets through; functions that are not called; groups of one.
-/
set_option linter.unusedVariables false
set_option linter.unusedSimpArgs false
namespace Go.Proofs.Ytnobggabjpcbfaa
open Go.RowKit

mutual
theorem deepA_dp : ∀ (t : Anf) (m : Nat) (n : Int), deepA t m n ≤ max n (dpN t)
  | .ret _, m, n => by simp [deepA, dpN]; omega
  | .bind _ _ _ _ _ bl r, m, n => by
    have h1 := deepL_dp bl m n
    have h2 := deepA_dp r m (deepL bl m n)
    simp only [deepA, dpN]
    omega
theorem deepL_dp : ∀ (l : List Anf) (m : Nat) (n : Int), deepL l m n ≤ max n (dpL l)
  | [], m, n => by simp [deepL, dpL]; omega
  | c :: cs, 0, n => by
    have h2 := deepL_dp cs 0 n
    simp only [deepL, dpL]
    omega
  | c :: cs, m + 1, n => by
    have h1 := deepA_dp c m 0
    have h2 := deepL_dp cs (m + 1) (max n (deepA c m 0 + 1))
    simp only [deepL, dpL]
    omega
end
theorem sizeB_tot (t : Anf) (most : Int) : sizeB t most ≤ totA t := by
  have h1 := (sizeA_le most t t.len).2
  have h2 := subA_len t
  unfold sizeB
  omega
theorem longB_no : ∀ (l : List Anf) (n : Int), (∀ a ∈ l, dpN a + 1 ≤ 400) → n + ((l.map totA).sum : Nat) ≤ 65536 → longB l n = false
  | [], n, _, _ => rfl
  | b :: bs, n, hd, hn => by
    simp only [List.map_cons, List.sum_cons] at hn
    have h1 := sizeB_tot b 65536
    have h2 := hd b (by simp)
    have h3 := deepA_dp b 400 0
    have h4 : deepB b 400 ≤ 400 := by unfold deepB; omega
    have h5 := longB_no bs (n + sizeB b 65536) (fun a ha => hd a (by simp [ha])) (by omega)
    unfold longB
    rw [if_neg (by omega)]
    exact h5
theorem dpF_ge : ∀ (l : List FFun) (m : Nat), m ≤ dpF l m ∧ ∀ g ∈ l, dpN g.body + 1 ≤ dpF l m
  | [], m => ⟨Nat.le_refl _, by simp⟩
  | g :: gs, m => by
    obtain ⟨h1, h2⟩ := dpF_ge gs (max m (dpN g.body + 1))
    simp only [dpF]
    refine ⟨by omega, fun x hx => ?_⟩
    rcases List.mem_cons.1 hx with rfl | hx
    · omega
    · exact h2 x hx
theorem totF_sum : ∀ (l : List FFun), ((l.map (·.body)).map totA).sum = totF l
  | [] => rfl
  | g :: gs => by simp only [List.map_cons, List.sum_cons, totF, totF_sum gs]
/-- **what the document's Right lets through, clos.Right does** -/
theorem rightC_of_r30 {p : FlatP} (h : r30 p = 0) : rightC p = 0 := by
  unfold r30 at h
  obtain ⟨h1, h⟩ := ite_zero h (fun _ => by decide)
  obtain ⟨h2, h⟩ := ite_zero h (fun _ => by decide)
  obtain ⟨h3, h⟩ := ite_zero h (fun h => h)
  have h4 := dpF_ge p.funs (dpN p.main + 1)
  have hl : longB (allB p) 0 = false := by
    refine longB_no _ _ (fun a ha => ?_) ?_
    · simp only [allB, List.mem_append, List.mem_map, List.mem_singleton] at ha
      rcases ha with ⟨g, hg, rfl⟩ | rfl
      · have := h4.2 g hg; omega
      · have := h4.1; omega
    · unfold allB
      rw [List.map_append, List.sum_append, totF_sum]
      simp only [List.map_cons, List.map_nil, List.sum_cons, List.sum_nil]
      omega
  unfold rightC
  have hl' : longB (p.funs.map (·.body) ++ [p.main]) 0 = false := hl
  rw [if_neg h1, hl', if_neg (by decide), if_neg h3]
  exact h
theorem szFuns_app : ∀ (l : List FFun) (g : FFun), szFuns (l ++ [g]) = szFuns l + (2 + szA g.body)
  | [], g => by simp [szFuns]
  | x :: l, g => by simp only [List.cons_append, szFuns, szFuns_app l g]; omega
end Go.Proofs.Ytnobggabjpcbfaa

/-
  camletlaw31.grouped: its contract.
-/
set_option linter.unusedVariables false
set_option linter.unusedSimpArgs false
namespace Go.Proofs.Ytnobggabjpcbfaa
open Go.RowKit

end Go.Proofs.Ytnobggabjpcbfaa

/-
  FevalGroup: the new program's functions, while they are put together.
-/
set_option linter.unusedVariables false
set_option linter.unusedSimpArgs false
namespace Go.Proofs.Ytnobggabjpcbfaa
open Go.RowKit

/-! ### sizes -/
theorem few_parts {p : FlatP} {inp : List Int} (h : fewF p inp = true) : szFuns p.funs + szA p.main ≤ 700 := by
  simp only [fewF, decide_eq_true_eq] at h
  obtain ⟨h, _⟩ := h
  have h1 := fewN_all p.funs _ h
  have h2 := fewN_ge p.funs (nodesA p.main 700 1)
  have h3 := nodesA_all p.main 700 1 (by omega)
  have h4 := szA_parts p.main
  omega
end Go.Proofs.Ytnobggabjpcbfaa

/-
  FevalMain: the walk.
-/
set_option linter.unusedVariables false
set_option linter.unusedSimpArgs false
namespace Go.Proofs.Ytnobggabjpcbfaa
open Go.RowKit

noncomputable def mnC6 : Code := match Try.f6.body with
  | some (.seq _ (.seq _ (.seq _ (.seq _ (.seq _ (.seq _ (.seq c _))))))) => c
  | _ => .skip
noncomputable def mnC7 : Code := match Try.f6.body with
  | some (.seq _ (.seq _ (.seq _ (.seq _ (.seq _ (.seq _ (.seq _ (.seq c _)))))))) => c
  | _ => .skip
noncomputable def mnC8 : Code := match Try.f6.body with
  | some (.seq _ (.seq _ (.seq _ (.seq _ (.seq _ (.seq _ (.seq _ (.seq _ (.seq c _))))))))) => c
  | _ => .skip
noncomputable def mnC9 : Code := match Try.f6.body with
  | some (.seq _ (.seq _ (.seq _ (.seq _ (.seq _ (.seq _ (.seq _ (.seq _ (.seq _ (.seq c _)))))))))) => c
  | _ => .skip
noncomputable def mnT13 : Code := match Try.f6.body with
  | some (.seq _ (.seq _ (.seq _ (.seq _ (.seq _ (.seq _ (.seq _ (.seq _ (.seq _ (.seq _ c)))))))))) => c
  | _ => .skip
noncomputable def mnC0 : Code := match Try.f6.body with
  | some (.seq c _) => c
  | _ => .skip
noncomputable def mnC1 : Code := match Try.f6.body with
  | some (.seq _ (.seq c _)) => c
  | _ => .skip
noncomputable def mnC2 : Code := match Try.f6.body with
  | some (.seq _ (.seq _ (.seq c _))) => c
  | _ => .skip
noncomputable def mnC3 : Code := match Try.f6.body with
  | some (.seq _ (.seq _ (.seq _ (.seq c _)))) => c
  | _ => .skip
theorem EndAt.later {V V2 : World} {X : Nat} {pe : PEnd} (h : EndAt V X pe) (hb : Below V.heap.size V V2) : EndAt V2 X pe := by
  obtain ⟨A, c, h1, h2⟩ := h
  exact ⟨A, c, (hb.block X (heap_lt h1)).trans h1, (h2.below hb).mono hb.size⟩
set_option maxRecDepth 100000 in
set_option maxHeartbeats 16000000 in
theorem mn_tail13 {W V : World} (hb : Below W.heap.size W V) {X9 X10 : Nat} {pa pb : PEnd} (ha : EndAt V X9 pa) (hb2 : EndAt V X10 pb) (hsame : sameE pa pb = true ∧ pb.steps = pa.steps + 3) (hbd : pa.steps ≤ 2000) (u0 u1 u2 u3 u4 u5 u6 u7 u8 u11 u12 u13 u14 u15 u16 u17 u18 u19 u20 u21 u22 u23 u24 u25 u26 u27 u28 u29 u30 u31 u32 u33 u34 u35 u36 u37 u38 u39 u40 u41 u42 u43 u44 u45 u46 u47 u48 u49 u50 u51 u52 u53 u54 u55 u56 u57 u58 u59 u60 u61 u62 u63 u64 u65 u66 u67 u68 u69 u70 u71 u72 u73 u74 u75 u76 : Value) :
    mnT13.wp Try.prog (bodyPost Try.prog Try.f6 (BoolBelow true W)) { tmps := #[u0, u1, u2, u3, u4, u5, u6, u7, u8, .pointer (some ⟨X9, 0, none⟩), .pointer (some ⟨X10, 0, none⟩), u11, u12, u13, u14, u15, u16, u17, u18, u19, u20, u21, u22, u23, u24, u25, u26, u27, u28, u29, u30, u31, u32, u33, u34, u35, u36, u37, u38, u39, u40, u41, u42, u43, u44, u45, u46, u47, u48, u49, u50, u51, u52, u53, u54, u55, u56, u57, u58, u59, u60, u61, u62, u63, u64, u65, u66, u67, u68, u69, u70, u71, u72, u73, u74, u75, u76], defers := [] } V := by
  obtain ⟨A, c, a0, a1, a2, a3, hia⟩ := endAt_cells ha
  obtain ⟨B, d, b0, b1, b2, b3, hib⟩ := endAt_cells hb2
  have HS1 := Lib.hid (same_any (v := .agg #[.int .i64 pa.kind, .int .i64 pa.n, .slice A pa.out.length c, .int .i64 pa.steps]) (u := .agg #[.int .i64 pb.kind, .int .i64 pb.n, .slice B pb.out.length d, .int .i64 pb.steps]) V ⟨A, c, rfl, hia⟩ ⟨B, d, rfl, hib⟩)
  rw [hsame.1] at HS1
  have HB := Lib.hid hb
  have HC := Lib.hid (fun (V2 : World) (h : Below V.heap.size V V2) => (show V2.cell? ⟨X9, 3, none⟩ = some (.int .i64 pa.steps) ∧ V2.cell? ⟨X10, 3, none⟩ = some (.int .i64 pb.steps) from
    ⟨cell_behind h a3, cell_behind h b3⟩))
  have hwr : IntKind.i64.wrap ((pa.steps : Int) + 3) = (pa.steps : Int) + 3 := by rw [IntKind.wrap_i64]; omega
  have hst3 : ((pb.steps : Int) == (pa.steps : Int) + 3) = true := by rw [hsame.2]; simp
  clear hia hib hb ha hb2 hsame hbd
  obtain ⟨Q, hQ⟩ : ∃ Q, (bodyPost Try.prog Try.f6 (BoolBelow true W)) = Q := ⟨_, rfl⟩
  have HQ := Lib.hid hQ
  rw [hQ]
  clear hQ
  unfold mnT13 Try.f6
  dsimp only
  go_wp2_with (first
    | (go_at_call 11; refine HS1.out.mono ?_; rintro en V2 ⟨rfl, hv2⟩; obtain ⟨q3, q4⟩ := HC.out _ hv2)
    | (go_at_call 8; refine (knows_any _).mono ?_; rintro en V4 ⟨rfl, hv4⟩))
  rw [← HQ.out]
  go_ret
  have h1 := HB.out.trans (hv2.mono HB.out.size)
  exact ⟨rfl, h1.trans (hv4.mono h1.size)⟩
set_option maxRecDepth 100000 in
set_option maxHeartbeats 16000000 in
theorem mn_tail7 {W V : World} (hb : Below W.heap.size W V) {X2 X8 L ci nf cf ng c9 n1 d1 n8 d8 : Nat} {Ai Af A1 A9 A8 : Option Addr} {b1 b8 : Bool} {k1 k8 : Int} {p g : FlatP} {inp : List Int} (hL : inp.length = L)
    (hS : ∀ V2, Below V.heap.size V V2 → V2.cell? ⟨X2, 0, none⟩ = some (.slice Af nf cf) ∧ V2.cell? ⟨X2, 1, none⟩ = some (.slice A1 n1 d1) ∧ V2.cell? ⟨X2, 2, none⟩ = some (.bool b1) ∧ V2.cell? ⟨X2, 3, none⟩ = some (.int .i64 k1)) (hS8 : ∀ V2, Below V.heap.size V V2 → V2.cell? ⟨X8, 0, none⟩ = some (.slice A9 ng c9) ∧ V2.cell? ⟨X8, 1, none⟩ = some (.slice A8 n8 d8) ∧ V2.cell? ⟨X8, 2, none⟩ = some (.bool b8) ∧ V2.cell? ⟨X8, 3, none⟩ = some (.int .i64 k8))
    (hp : FlatIn V.heap.size V p #[.slice Af nf cf, .slice A1 n1 d1, .bool b1, .int .i64 k1]) (hg : FlatIn V.heap.size V g #[.slice A9 ng c9, .slice A8 n8 d8, .bool b8, .int .i64 k8]) (hi : IntsIn V.heap.size V Ai inp) (hci : inp.length ≤ ci)
    (sm1 : SmallF p) (sm2 : SmallF g) (hlaw : r30 g = 0 → (runE p inp 1000).kind ≠ 3 → sameE (runE p inp 1000) (runE g inp 1003) = true ∧ (runE g inp 1003).steps = (runE p inp 1000).steps + 3) (hbd : (runE p inp 1000).steps ≤ 2000) (u0 u3 u4 u5 u6 u7 u9 u10 u11 u12 u13 u14 u15 u16 u17 u18 u19 u20 u21 u22 u23 u24 u25 u26 u27 u28 u29 u30 u31 u32 u33 u34 u35 u36 u37 u38 u39 u40 u41 u42 u43 u44 u45 u46 u47 u48 u49 u50 u51 u52 u53 u54 u55 u56 u57 u58 u59 u60 u61 u62 u63 u64 u65 u66 u67 u68 u69 u70 u71 u72 u73 u74 u75 u76 : Value) :
    mnT7.wp Try.prog (bodyPost Try.prog Try.f6 (BoolBelow true W)) { tmps := #[u0, .slice Ai L ci, .pointer (some ⟨X2, 0, none⟩), u3, u4, u5, u6, u7, .pointer (some ⟨X8, 0, none⟩), u9, u10, u11, u12, u13, u14, u15, u16, u17, u18, u19, u20, u21, u22, u23, u24, u25, u26, u27, u28, u29, u30, u31, u32, u33, u34, u35, u36, u37, u38, u39, u40, u41, u42, u43, u44, u45, u46, u47, u48, u49, u50, u51, u52, u53, u54, u55, u56, u57, u58, u59, u60, u61, u62, u63, u64, u65, u66, u67, u68, u69, u70, u71, u72, u73, u74, u75, u76], defers := [] } V := by
  have HB := Lib.hid hb
  have HS := Lib.hid hS
  have HS8 := Lib.hid hS8
  obtain ⟨z4, z5, z6, z7⟩ := hS8 V (Below.refl _ _)
  have HR2 := Lib.hid (rright_any sm2 V hg (Nat.le_refl _))
  by_cases h2 : r30 g = 0
  · rw [h2] at HR2
    have HRA := Lib.hid (fun (V2 : World) (h : Below V.heap.size V V2) => (show Calls Try.prog 9 #[.agg #[.slice Af nf cf, .slice A1 n1 d1, .bool b1, .int .i64 k1], .slice Ai L ci, .int .i64 1000] V2 (RunPost (runE p inp 1000) V2) from by
      have := run_ready (hp.later h) sm1 ((hi.below h).mono h.size) hci 1000
      rwa [hL] at this))
    have HRB := Lib.hid (fun (V2 : World) (h : Below V.heap.size V V2) => (show Calls Try.prog 9 #[.agg #[.slice A9 ng c9, .slice A8 n8 d8, .bool b8, .int .i64 k8], .slice Ai L ci, .int .i64 1003] V2 (RunPost (runE g inp 1003) V2) from by
      have := run_ready (hg.later h) sm2 ((hi.below h).mono h.size) hci 1003
      rwa [hL] at this))
    have HLAW := Lib.hid (hlaw h2)
    have HBD := Lib.hid hbd
    generalize runE p inp 1000 = pa at *
    generalize runE g inp 1003 = pb at *
    have HT13 := Lib.hid (fun (V2 : World) (X9 X10 : Nat) (hv : Below V.heap.size V V2) (ha : EndAt V2 X9 pa) (hb2 : EndAt V2 X10 pb) (hk : pa.kind ≠ 3) (y0 y1 y2 y3 y4 y5 y6 y7 y8 y11 y12 y13 y14 y15 y16 y17 y18 y19 y20 y21 y22 y23 y24 y25 y26 y27 y28 y29 y30 y31 y32 y33 y34 y35 y36 y37 y38 y39 y40 y41 y42 y43 y44 y45 y46 y47 y48 y49 y50 y51 y52 y53 y54 y55 y56 y57 y58 y59 y60 y61 y62 y63 y64 y65 y66 y67 y68 y69 y70 y71 y72 y73 y74 y75 y76 : Value) =>
      (show mnT13.wp Try.prog (bodyPost Try.prog Try.f6 (BoolBelow true W)) { tmps := #[y0, y1, y2, y3, y4, y5, y6, y7, y8, .pointer (some ⟨X9, 0, none⟩), .pointer (some ⟨X10, 0, none⟩), y11, y12, y13, y14, y15, y16, y17, y18, y19, y20, y21, y22, y23, y24, y25, y26, y27, y28, y29, y30, y31, y32, y33, y34, y35, y36, y37, y38, y39, y40, y41, y42, y43, y44, y45, y46, y47, y48, y49, y50, y51, y52, y53, y54, y55, y56, y57, y58, y59, y60, y61, y62, y63, y64, y65, y66, y67, y68, y69, y70, y71, y72, y73, y74, y75, y76], defers := [] } V2 from mn_tail13 (hb.trans (hv.mono hb.size)) ha hb2 (HLAW.out hk) hbd _ _ _ _ _ _ _ _ _ _ _ _ _ _ _ _ _ _ _ _ _ _ _ _ _ _ _ _ _ _ _ _ _ _ _ _ _ _ _ _ _ _ _ _ _ _ _ _ _ _ _ _ _ _ _ _ _ _ _ _ _ _ _ _ _ _ _ _ _ _ _ _ _ _ _))
    clear hb hS hS8 hp hg hi hlaw sm1 sm2 h2 hci hbd
    show (Code.seq mnC6 (Code.seq mnC7 (Code.seq mnC8 (Code.seq mnC9 mnT13)))).wp Try.prog _ _ _
    obtain ⟨T13, hT13⟩ : ∃ c, mnT13 = c := ⟨_, rfl⟩
    obtain ⟨Q, hQ⟩ : ∃ Q, (bodyPost Try.prog Try.f6 (BoolBelow true W)) = Q := ⟨_, rfl⟩
    have HQ := Lib.hid hQ
    rw [hT13, hQ] at HT13
    rw [hT13, hQ]
    clear hT13 hQ
    unfold mnC6 mnC7 mnC8 mnC9 Try.f6
    dsimp only
    go_wp2_with (first | (go_at_call 13; (with_reducible refine HR2.out.mono ?_); rintro e w3 ⟨rfl, hb3⟩; obtain ⟨x0, x1, x2, x3⟩ := HS.out w3 hb3))
    refine (HRA.out w3 hb3).mono ?_
    rintro e w4 ⟨v, A, c, rfl, rfl, hE, hq4, hlo⟩
    dsimp only
    obtain ⟨A', c', heq, hi4⟩ := hE
    simp only [Value.agg.injEq, Array.mk.injEq, List.cons.injEq, Value.slice.injEq, true_and, and_true] at heq
    obtain ⟨rfl, rfl⟩ := heq
    have hb4 := hb3.trans (hq4.mono hb3.size)
    obtain ⟨W9, hW9⟩ : ∃ w, w4.alloc (.cells #[.int .i64 pa.kind, .int .i64 pa.n, .slice A pa.out.length c, .int .i64 pa.steps] 35) = w := ⟨_, rfl⟩
    have hb9 : Below w4.heap.size w4 W9 := by rw [← hW9]; exact (Below.refl _ _).alloc (Nat.le_refl _) _
    have hn9 : W9.heap[w4.heap.size]? = some (.cells #[.int .i64 pa.kind, .int .i64 pa.n, .slice A pa.out.length c, .int .i64 pa.steps] 35 (0, 0)) := by rw [← hW9]; exact World.alloc_heap_new w4 _
    have HE9 := Lib.hid (show EndAt W9 w4.heap.size pa from ⟨A, c, hn9, (hi4.below hb9).mono hb9.size⟩)
    have HB9 := Lib.hid (hb4.trans (hb9.mono hb4.size))
    have k9 : W9.cell? ⟨w4.heap.size, 0, none⟩ = some (.int .i64 pa.kind) := by simp [World.cell?, hn9]
    obtain ⟨y0, y1, y2, y3⟩ := HS8.out W9 HB9.out
    clear hb3 hq4 hb4 hb9 hn9 hi4 hlo x0 x1 x2 x3
    by_cases hk : pa.kind = 3
    · have hk1 : (pa.kind == 3) = true := by simpa using hk
      clear hk
      go_wp2_with (first | (go_at_call 8; refine (knows_any _).mono ?_; rintro e w8 ⟨rfl, hb8⟩))
      rw [← HQ.out]
      go_ret
      have h1 := HB.out.trans (HB9.out.mono HB.out.size)
      exact ⟨rfl, h1.trans (hb8.mono h1.size)⟩
    · have hk1 : (pa.kind == 3) = false := by simpa using hk
      have HK := Lib.hid hk
      clear hk
      go_wp2_with fail
      refine (HRB.out W9 HB9.out).mono ?_
      rintro e w5 ⟨v, A2, c2, rfl, rfl, hE, hq5, hlo⟩
      dsimp only
      obtain ⟨A', c', heq, hi5⟩ := hE
      simp only [Value.agg.injEq, Array.mk.injEq, List.cons.injEq, Value.slice.injEq, true_and, and_true] at heq
      obtain ⟨rfl, rfl⟩ := heq
      have HB5 := Lib.hid (HB9.out.trans (hq5.mono HB9.out.size))
      have HE5 := Lib.hid (HE9.out.later hq5)
      have HI5 := Lib.hid hi5
      clear hq5 hi5 hlo y0 y1 y2 y3 k9
      go_wp2_with fail
      have hba : Below w5.heap.size w5 (w5.alloc (.cells #[.int .i64 pb.kind, .int .i64 pb.n, .slice A2 pb.out.length c2, .int .i64 pb.steps] 35)) := (Below.refl _ _).alloc (Nat.le_refl _) _
      exact HT13.out _ _ _ (HB5.out.trans (hba.mono HB5.out.size)) (HE5.out.later hba) ⟨A2, c2, World.alloc_heap_new w5 _, (HI5.out.below hba).mono hba.size⟩ HK.out _ _ _ _ _ _ _ _ _ _ _ _ _ _ _ _ _ _ _ _ _ _ _ _ _ _ _ _ _ _ _ _ _ _ _ _ _ _ _ _ _ _ _ _ _ _ _ _ _ _ _ _ _ _ _ _ _ _ _ _ _ _ _ _ _ _ _ _ _ _ _ _ _ _ _
  · obtain ⟨z, hz⟩ : ∃ z, r30 g = z := ⟨_, rfl⟩
    rw [hz] at HR2 h2
    have hn1 : (z == 0) = false := by simpa using h2
    have hn2 : (z != 0) = true := by simpa using h2
    clear hb hS hS8 hp hg hi hlaw sm1 sm2 h2 hci hz hbd
    unfold mnT7 Try.f6
    dsimp only
    go_wp2_with (first | (go_at_call 13; (with_reducible refine HR2.out.mono ?_); rintro e w3 ⟨rfl, hb3⟩) | (go_at_call 8; refine (knows_any _).mono ?_; rintro e w8 ⟨rfl, hb8⟩))
    go_ret
    have h1 := HB.out.trans (hb3.mono HB.out.size)
    exact ⟨rfl, h1.trans (hb8.mono h1.size)⟩
/-! ### the plain law, sizes -/
theorem steps_le (p : FlatP) (inp : List Int) : (runE p inp 1000).steps ≤ 2000 := by
  unfold runE
  split
  · have h : fuelOf 1000 = 1000 := rfl
    rw [endF_steps, h]
    omega
  · show 0 ≤ 2000
    omega
theorem main_law (p : FlatP) (inp : List Int) (h1 : r30 p = 0) (h2 : r30 ⟨p.funs ++ [⟨65535, 65534, p.main⟩], callerA p.funs.length⟩ = 0) (hk : (runE p inp 1000).kind ≠ 3) :
    sameE (runE p inp 1000) (runE ⟨p.funs ++ [⟨65535, 65534, p.main⟩], callerA p.funs.length⟩ inp 1003) = true ∧ (runE ⟨p.funs ++ [⟨65535, 65534, p.main⟩], callerA p.funs.length⟩ inp 1003).steps = (runE p inp 1000).steps + 3 := by
  have c1 := rightC_of_r30 h1
  have c2 := rightC_of_r30 h2
  have e1 : runE p inp 1000 = endF 1000 (evF p.funs (inp.take 4096) 1001 p.main [] (initF 1000)) := by
    unfold runE; rw [if_pos c1]; rfl
  have e2 : runE ⟨p.funs ++ [⟨65535, 65534, p.main⟩], callerA p.funs.length⟩ inp 1003 = endF 1003 (evF (p.funs ++ [⟨65535, 65534, p.main⟩]) (inp.take 4096) 1004 (callerA p.funs.length) [] (initF 1003)) := by
    unfold runE; rw [if_pos c2]; rfl
  rw [e1] at hk ⊢
  rw [e2]
  obtain ⟨h3, h4, h5, h6⟩ := main_ends (inp := inp.take 4096) c1 hk
  exact ⟨by simp only [sameE, decide_eq_true_eq]; exact ⟨h3.symm, h4.symm, h5.symm⟩, h6⟩
theorem small_caller {p : FlatP} {inp : List Int} (h : fewF p inp = true) (hr : (∀ g ∈ p.funs, rngA g.body) ∧ rngA p.main) : SmallF ⟨p.funs ++ [⟨65535, 65534, p.main⟩], callerA p.funs.length⟩ := by
  have h1 := few_parts h
  have h2 := szFuns_app p.funs ⟨65535, 65534, p.main⟩
  have h3 : szA (callerA p.funs.length) = 2 := by simp [callerA, szA, szL]
  refine ⟨?_, fun g hg => ?_, ?_⟩
  · show szFuns (p.funs ++ [⟨65535, 65534, p.main⟩]) + szA (callerA p.funs.length) ≤ _
    rw [h2, h3]
    simp only
    omega
  · rcases List.mem_append.1 hg with hg | hg
    · exact hr.1 g hg
    · rw [List.mem_singleton] at hg; subst hg; exact hr.2
  · simp only [callerA, rngA, rngL, List.mem_cons, List.not_mem_nil, or_false, forall_eq, forall_eq_or_imp, true_and]
    exact ⟨fun a h => h.elim, ⟨rfl, rfl⟩, rfl⟩
theorem box_cells {W W0 : World} {v0 v1 v2 v3 : Value} (hW0 : W.alloc (.cells #[v0, v1, v2, v3] 29) = W0) (V2 : World) (h : Below W0.heap.size W0 V2) : V2.cell? ⟨W.heap.size, 0, none⟩ = some v0 ∧ V2.cell? ⟨W.heap.size, 1, none⟩ = some v1 ∧ V2.cell? ⟨W.heap.size, 2, none⟩ = some v2 ∧ V2.cell? ⟨W.heap.size, 3, none⟩ = some v3 := by
  have h3 : W0.heap[W.heap.size]? = some (.cells #[v0, v1, v2, v3] 29 (0, 0)) := by rw [← hW0]; exact World.alloc_heap_new W _
  have h' := (h.block _ (heap_lt h3)).trans h3
  exact ⟨by simp [World.cell?, h'], by simp [World.cell?, h'], by simp [World.cell?, h'], by simp [World.cell?, h']⟩
set_option maxRecDepth 100000 in
set_option maxHeartbeats 16000000 in
theorem mn_guard {W W0 : World} {p : FlatP} {inp : List Int} {Af A1 Ai : Option Addr} {cf d1 ci : Nat} (hW0 : W.alloc (.cells #[.slice Af p.funs.length cf, .slice A1 p.main.len d1, .bool p.main.last.v, .int .i64 p.main.last.n] 29) = W0) (hflat : FlatIn W.heap.size W p #[.slice Af p.funs.length cf, .slice A1 p.main.len d1, .bool p.main.last.v, .int .i64 p.main.last.n]) (hrg : (∀ g ∈ p.funs, rngA g.body) ∧ rngA p.main) (hg : fewF p inp = false ∨ r30 p ≠ 0) :
    Calls Try.prog 6 #[.agg #[.slice Af p.funs.length cf, .slice A1 p.main.len d1, .bool p.main.last.v, .int .i64 p.main.last.n], .slice Ai inp.length ci] W (BoolBelow true W) := by
  have hb0 : Below W.heap.size W W0 := by rw [← hW0]; exact (Below.refl _ _).alloc (Nat.le_refl _) _
  have HF := Lib.hid (fewF_any W0 (hflat.later hb0) inp Ai ci)
  have HC := Lib.hid (box_cells hW0)
  have HL := Lib.hid hb0
  obtain ⟨z0, z1, z2, z3⟩ := HC.out W0 (Below.refl _ _)
  cases hfw : fewF p inp with
  | false =>
    rw [hfw] at HF
    clear hfw hg hflat hb0 hrg
    generalize p.main.len = ml at *
    generalize p.main.last.v = mv at *
    generalize p.main.last.n = mn at *
    generalize inp.length = il at *
    go_enter Try.func6, Try.ntmps6
    go_wp2_with (first | (go_at_call 7; refine (HF.out).mono ?_; rintro e w1 ⟨rfl, hb1⟩; obtain ⟨x0, x1, x2, x3⟩ := HC.out w1 hb1) | (go_at_call 8; refine (knows_any _).mono ?_; rintro e w8 ⟨rfl, hb8⟩))
    go_ret
    have h1 := HL.out.trans (hb1.mono HL.out.size)
    exact ⟨rfl, h1.trans (hb8.mono h1.size)⟩
  | true =>
    rw [hfw] at HF
    have hr : r30 p ≠ 0 := by
      rcases hg with h | h
      · rw [hfw] at h; cases h
      · exact h
    have sm1 := few_small hfw hrg
    have HR1 := Lib.hid (fun (V2 : World) (h : Below W0.heap.size W0 V2) => rright_any sm1 V2 ((hflat.later hb0).later h) (Nat.le_refl _))
    obtain ⟨z, hz⟩ : ∃ z, r30 p = z := ⟨_, rfl⟩
    rw [hz] at HR1 hr
    have hn1 : (z == 0) = false := by simpa using hr
    have hn2 : (z != 0) = true := by simpa using hr
    clear hfw hg hr sm1 hz hflat hb0 hrg
    generalize p.main.len = ml at *
    generalize p.main.last.v = mv at *
    generalize p.main.last.n = mn at *
    generalize inp.length = il at *
    go_enter Try.func6, Try.ntmps6
    go_wp2_with (first | (go_at_call 7; refine (HF.out).mono ?_; rintro e w1 ⟨rfl, hb1⟩; obtain ⟨x0, x1, x2, x3⟩ := HC.out w1 hb1) | (go_at_call 13; (with_reducible refine (HR1.out w1 hb1).mono ?_); rintro e w2 ⟨rfl, hq1⟩; have hb2 := hb1.trans (hq1.mono hb1.size); obtain ⟨x0, x1, x2, x3⟩ := HC.out w2 hb2) | (go_at_call 8; refine (knows_any _).mono ?_; rintro e w8 ⟨rfl, hb8⟩))
    go_ret
    have h1 := HL.out.trans (hb2.mono HL.out.size)
    exact ⟨rfl, h1.trans (hb8.mono h1.size)⟩
set_option maxRecDepth 100000 in
set_option maxHeartbeats 16000000 in
theorem mn_walk {W W0 : World} {p : FlatP} {inp : List Int} {Af A1 Ai : Option Addr} {cf d1 ci b o : Nat} (hW0 : W.alloc (.cells #[.slice Af p.funs.length cf, .slice A1 p.main.len d1, .bool p.main.last.v, .int .i64 p.main.last.n] 29) = W0) (hflat : FlatIn W.heap.size W p #[.slice Af p.funs.length cf, .slice A1 p.main.len d1, .bool p.main.last.v, .int .i64 p.main.last.n]) (hrg : (∀ g ∈ p.funs, rngA g.body) ∧ rngA p.main) (hnl : p.funs.length ≤ 1048576) (hcf : p.funs.length ≤ cf)
    (hi : IntsIn W.heap.size W Ai inp) (hci : inp.length ≤ ci) (hfw : fewF p inp = true) (hr30 : r30 p = 0)
    (hA : 0 < p.funs.length → Af = some ⟨b, o, none⟩ ∧ b < W.heap.size)
    (hfun : ∀ j (h : j < p.funs.length), ∃ g0 g1 g2, W.cell? ⟨b, o + j * 5, none⟩ = some (.int .i64 p.funs[j].env) ∧ W.cell? ⟨b, o + j * 5 + 1, none⟩ = some (.int .i64 p.funs[j].param) ∧ W.cell? ⟨b, o + j * 5 + 2, none⟩ = some g0 ∧ W.cell? ⟨b, o + j * 5 + 3, none⟩ = some g1 ∧ W.cell? ⟨b, o + j * 5 + 4, none⟩ = some g2 ∧ BodyIn W.heap.size W p.funs[j].body #[g0, g1, g2])
    (hmain : BodyIn W.heap.size W p.main #[.slice A1 p.main.len d1, .bool p.main.last.v, .int .i64 p.main.last.n]) :
    Calls Try.prog 6 #[.agg #[.slice Af p.funs.length cf, .slice A1 p.main.len d1, .bool p.main.last.v, .int .i64 p.main.last.n], .slice Ai inp.length ci] W (BoolBelow true W) := by
  have hb0 : Below W.heap.size W W0 := by rw [← hW0]; exact (Below.refl _ _).alloc (Nat.le_refl _) _
  have hs0 : W0.heap.size = W.heap.size + 1 := by rw [← hW0]; simp
  have sm1 := few_small hfw hrg
  have sm2 := small_caller hfw hrg
  obtain ⟨news, hnr, hone, hrow⟩ := funs_news hA hfun
  have HF := Lib.hid (fewF_any W0 (hflat.later hb0) inp Ai ci)
  rw [hfw] at HF
  have HC := Lib.hid (box_cells hW0)
  have HR1 := Lib.hid (fun (V2 : World) (h : Below W0.heap.size W0 V2) => rright_any sm1 V2 ((hflat.later hb0).later h) (Nat.le_refl _))
  rw [hr30] at HR1
  have hW : ∀ V2, Below W0.heap.size W0 V2 → Below W.heap.size W V2 := fun V2 h => hb0.trans (h.mono hb0.size)
  have HT5 := Lib.hid (fun (V : World) (X7 : Nat) (hV : Below W0.heap.size W0 V) (h7 : V.heap[X7]? = some (.cells #[.int .i64 65533, .int .i64 9, .int .i64 (p.funs.length : Int), .slice none 0 0, .slice none 0 0, .slice none 0 0] 54 (0, 0))) (y0 y3 y4 y8 y9 y10 y11 y12 y13 y14 y15 y16 y17 y18 y19 y20 y21 y22 y23 y24 y25 y26 y27 y28 y29 y30 y31 y32 y33 y34 y35 y36 y37 y38 y39 y40 y41 y42 y43 y44 y45 y46 y47 y48 y49 y50 y51 y52 y53 y54 y55 y56 y57 y58 y59 y60 y61 y62 y63 y64 y65 y66 y67 y68 y69 y70 y71 y72 y73 y74 y75 y76 : Value) =>
    (show ∀ K : Act → World → Prop, (∀ a w, mnT6.wp Try.prog (bodyPost Try.prog Try.f6 (BoolBelow true W)) a w → K a w) → mnR5.wp Try.prog (Exit.then K (bodyPost Try.prog Try.f6 (BoolBelow true W))) { tmps := #[y0, .slice Ai inp.length ci, .pointer (some ⟨W.heap.size, 0, none⟩), y3, y4, .int .i64 65533, .int .i64 65532, .pointer (some ⟨X7, 0, none⟩), y8, y9, y10, y11, y12, y13, y14, y15, y16, y17, y18, y19, y20, y21, y22, y23, y24, y25, y26, y27, y28, y29, y30, y31, y32, y33, y34, y35, y36, y37, y38, y39, y40, y41, y42, y43, y44, y45, y46, y47, y48, y49, y50, y51, y52, y53, y54, y55, y56, y57, y58, y59, y60, y61, y62, y63, y64, y65, y66, y67, y68, y69, y70, y71, y72, y73, y74, y75, y76], defers := [] } V from
      mn_build5 (nn := (p.funs.length : Int)) (fun V2 h => by
          have h' := (h.block X7 (heap_lt h7)).trans h7
          exact ⟨by simp [World.cell?, h'], by simp [World.cell?, h'], by simp [World.cell?, h'], by simp [World.cell?, h'], by simp [World.cell?, h'], by simp [World.cell?, h']⟩)
        (fun V2 Ra Rr X8 hv ha hr h8 g1 g2 g3 n1 n2 n3 k0 k3 k4 k5 k6 k7 k9 k10 k11 k12 k13 k14 k15 k16 k17 k18 k19 k20 k21 k22 k23 k24 k25 k26 k27 k28 k29 k30 k31 k32 k33 k34 k35 k36 k37 k38 k39 k40 k41 k42 k43 k44 k45 k46 k47 k48 k49 k50 k51 k52 k53 k54 k55 k56 k57 k58 k59 k60 k61 k62 k63 k64 k65 k66 k67 k68 k69 k70 k71 k72 k73 k74 k75 k76 => by
          have h6 := mn_build6 (W := W) (X2 := W.heap.size) (L := inp.length) (ci := ci) (Ai := Ai) hnr.1 (by omega) hv ha hr h8 g1 g2 g3 n1 n2 n3 (fun V3 h3 => HC.out V3 (hV.trans (h3.mono hV.size))) (fun V3 h3 => hrow V3 (hW V3 (hV.trans (h3.mono hV.size)))) hone
            (fun V3 An cn hv3 ha3 hr3 h83 hown l0 l3 l4 l5 l6 l7 l9 l10 l11 l12 l13 l14 l15 l16 l17 l18 l19 l20 l21 l22 l23 l24 l25 l26 l27 l28 l29 l30 l31 l32 l33 l34 l35 l36 l37 l38 l39 l40 l41 l42 l43 l44 l45 l46 l47 l48 l49 l50 l51 l52 l53 l54 l55 l56 l57 l58 l59 l60 l61 l62 l63 l64 l65 l66 l67 l68 l69 l70 l71 l72 l73 l74 l75 l76 => by
              have hWV := hW V3 (hV.trans (hv3.mono hV.size))
              have hnr2 : FunsRow V3.heap.size V3 (p.funs ++ [⟨65535, 65534, p.main⟩]) (news ++ [.int .i64 65535, .int .i64 65534, .slice A1 p.main.len d1, .bool p.main.last.v, .int .i64 p.main.last.n]) := ((hnr.kept hWV).mono hWV.size).snoc (g := ⟨65535, 65534, p.main⟩) (hmain.later hWV)
              have hlen : (p.funs ++ [(⟨65535, 65534, p.main⟩ : FFun)]).length = p.funs.length + 1 := by simp
              obtain ⟨A', c', he, hfl⟩ := flat_of_row (main := callerA p.funs.length) (own_size_ hlen rfl hown) hnr2 ((caller_on ha3 hr3).in_ (fun k hk => by rcases hk with rfl | rfl; exact heap_lt ha3; exact heap_lt hr3)) (by rw [hlen]; omega)
              rw [hlen] at he hfl
              simp only [Value.slice.injEq, true_and] at he
              obtain ⟨rfl, rfl⟩ := he
              exact mn_tail7 (p := p) (g := ⟨p.funs ++ [⟨65535, 65534, p.main⟩], callerA p.funs.length⟩) (inp := inp) hWV rfl (fun V4 h4 => HC.out V4 (hV.trans ((hv3.trans (h4.mono hv3.size)).mono hV.size))) (fun V4 h4 => by
                  have h' := (h4.block X8 (heap_lt h83)).trans h83
                  exact ⟨by simp [World.cell?, h'], by simp [World.cell?, h'], by simp [World.cell?, h'], by simp [World.cell?, h']⟩) (hflat.later hWV) hfl ((hi.below hWV).mono hWV.size) hci sm1 sm2 (fun h2 hk => main_law p inp hr30 h2 hk) (steps_le p inp) _ _ _ _ _ _ _ _ _ _ _ _ _ _ _ _ _ _ _ _ _ _ _ _ _ _ _ _ _ _ _ _ _ _ _ _ _ _ _ _ _ _ _ _ _ _ _ _ _ _ _ _ _ _ _ _ _ _ _ _ _ _ _ _ _ _ _ _ _ _ _ _ _ _) k0 k3 k4 k5 k6 k7 k9 k10 k11 k12 k13 k14 k15 k16 k17 k18 k19 k20 k21 k22 k23 k24 k25 k26 k27 k28 k29 k30 k31 k32 k33 k34 k35 k36 k37 k38 k39 k40 k41 k42 k43 k44 k45 k46 k47 k48 k49 k50 k51 k52 k53 k54 k55 k56 k57 k58 k59 k60 k61 k62 k63 k64 k65 k66 k67 k68 k69 k70 k71 k72 k73 k74 k75 k76
          show (Code.seq mnR6 mnT7).wp Try.prog _ _ _
          exact Go.wp_seq (h6 _ (fun a w h => h))) _ _ _ _ _ _ _ _ _ _ _ _ _ _ _ _ _ _ _ _ _ _ _ _ _ _ _ _ _ _ _ _ _ _ _ _ _ _ _ _ _ _ _ _ _ _ _ _ _ _ _ _ _ _ _ _ _ _ _ _ _ _ _ _ _ _ _ _ _ _ _ _))
  have HB0 := Lib.hid hb0
  obtain ⟨z0, z1, z2, z3⟩ := HC.out W0 (Below.refl _ _)
  clear hflat hrg hi hci hfw hr30 hA hfun hmain hnr hone hrow hW hb0 sm1 sm2 hs0
  go_enter Try.func6, Try.ntmps6
  show (Code.seq mnC0 (Code.seq mnC1 (Code.seq mnC2 (Code.seq mnC3 (Code.seq mnR5 mnT6))))).wp Try.prog _ _ _
  obtain ⟨R5, hR5⟩ : ∃ c, mnR5 = c := ⟨_, rfl⟩
  obtain ⟨T6, hT6⟩ : ∃ c, mnT6 = c := ⟨_, rfl⟩
  obtain ⟨Q, hQ⟩ : ∃ Q, (bodyPost Try.prog Try.f6 (BoolBelow true W)) = Q := ⟨_, rfl⟩
  rw [hR5, hT6, hQ] at HT5
  rw [hR5, hT6, hQ]
  clear hR5 hT6 hQ
  unfold mnC0 mnC1 mnC2 mnC3 Try.f6
  dsimp only
  go_wp2_with (first | (go_at_call 7; refine (HF.out).mono ?_; rintro e w1 ⟨rfl, hb1⟩; obtain ⟨x0, x1, x2, x3⟩ := HC.out w1 hb1) | (go_at_call 13; (with_reducible refine (HR1.out w1 hb1).mono ?_); rintro e w2 ⟨rfl, hq1⟩; have hb2 := hb1.trans (hq1.mono hb1.size); obtain ⟨x0, x1, x2, x3⟩ := HC.out w2 hb2))
  have hba : Below w2.heap.size w2 (w2.alloc (.cells #[.int .i64 65533, .int .i64 9, .int .i64 (p.funs.length : Int), .slice none 0 0, .slice none 0 0, .slice none 0 0] 54)) := (Below.refl _ _).alloc (Nat.le_refl _) _
  exact HT5.out _ _ (hb2.trans (hba.mono hb2.size)) (World.alloc_heap_new w2 _) _ _ _ _ _ _ _ _ _ _ _ _ _ _ _ _ _ _ _ _ _ _ _ _ _ _ _ _ _ _ _ _ _ _ _ _ _ _ _ _ _ _ _ _ _ _ _ _ _ _ _ _ _ _ _ _ _ _ _ _ _ _ _ _ _ _ _ _ _ _ _ _ _ ‹∀ (a : Act) (w : World), Code.wp Try.prog _ _ a w → _›
end Go.Proofs.Ytnobggabjpcbfaa
