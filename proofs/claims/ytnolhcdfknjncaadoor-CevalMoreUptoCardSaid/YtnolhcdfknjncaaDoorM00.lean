/-
  CevalMore: what stands behind its first run.
-/
import Derived.Test.YtnolhcdfknjncaaDoorM0
set_option linter.unusedVariables false
set_option linter.unusedSimpArgs false
namespace Go.Proofs.YtnolhcdfknjncaaDoor
open Go.RowKit

theorem EndAt.below {V V2 : World} {X : Nat} {pe : PEnd} (h : EndAt V X pe) (hb : Below V.heap.size V V2) : EndAt V2 X pe := by
  obtain ⟨A, c, h1, hi⟩ := h
  have hX : X < V.heap.size := by
    rcases Nat.lt_or_ge X V.heap.size with h | h
    · exact h
    · rw [Array.getElem?_eq_none (by omega)] at h1; cases h1
  exact ⟨A, c, (hb.block X hX).trans h1, (hi.below hb).mono hb.size⟩
theorem end_zero (V V2 : World) (hb : Below (V.alloc (.cells #[.int .i64 0, .int .i64 0, .slice none 0 0, .int .i64 0] 31)).drew.heap.size (V.alloc (.cells #[.int .i64 0, .int .i64 0, .slice none 0 0, .int .i64 0] 31)).drew V2) : V2.heap[V.heap.size]? = some (.cells #[.int .i64 0, .int .i64 0, .slice none 0 0, .int .i64 0] 31 (0, 0)) :=
  (hb.block V.heap.size (show V.heap.size < (V.alloc (.cells #[.int .i64 0, .int .i64 0, .slice none 0 0, .int .i64 0] 31)).heap.size from by rw [World.size_alloc]; exact Nat.lt_succ_self _)).trans (World.alloc_heap_new V _)
/-- the run first, its end then laid -/
theorem end_new {V2 : World} {B : Option Addr} {d : Nat} {pb : PEnd} (hE : EndV V2 pb (.agg #[.int .i64 pb.kind, .int .i64 pb.n, .slice B pb.out.length d, .int .i64 pb.steps])) :
    EndAt (V2.alloc (.cells #[.int .i64 pb.kind, .int .i64 pb.n, .slice B pb.out.length d, .int .i64 pb.steps] 31)) V2.heap.size pb := by
  have FE := hE.below (w' := V2.alloc (.cells #[.int .i64 pb.kind, .int .i64 pb.n, .slice B pb.out.length d, .int .i64 pb.steps] 31)) ((Below.refl _ _).alloc (Nat.le_refl _) _)
  obtain ⟨A', c', heq, hi⟩ := FE
  simp only [Value.agg.injEq, Array.mk.injEq, List.cons.injEq, Value.slice.injEq, true_and, and_true] at heq
  obtain ⟨rfl, rfl⟩ := heq
  exact ⟨_, _, World.alloc_heap_new V2 _, hi⟩
/-- the end's place first, filled behind the run -/
theorem end_set {V V2 : World} {B : Option Addr} {d : Nat} {pb : PEnd} (hb : Below (V.alloc (.cells #[.int .i64 0, .int .i64 0, .slice none 0 0, .int .i64 0] 31)).drew.heap.size (V.alloc (.cells #[.int .i64 0, .int .i64 0, .slice none 0 0, .int .i64 0] 31)).drew V2) (hlo : ∀ a, B = some a → (V.alloc (.cells #[.int .i64 0, .int .i64 0, .slice none 0 0, .int .i64 0] 31)).drew.heap.size ≤ a.block) (hE : EndV V2 pb (.agg #[.int .i64 pb.kind, .int .i64 pb.n, .slice B pb.out.length d, .int .i64 pb.steps])) :
    EndAt ((((V2.setCell ⟨V.heap.size, 0, none⟩ (.int .i64 pb.kind)).setCell ⟨V.heap.size, 1, none⟩ (.int .i64 pb.n)).setCell ⟨V.heap.size, 2, none⟩ (.slice B pb.out.length d)).setCell ⟨V.heap.size, 3, none⟩ (.int .i64 pb.steps)) V.heap.size pb := by
  have hz := end_zero V V2 hb
  obtain ⟨A', c', heq, hi1, hi2⟩ := hE
  simp only [Value.agg.injEq, Array.mk.injEq, List.cons.injEq, Value.slice.injEq, true_and, and_true] at heq
  obtain ⟨rfl, rfl⟩ := heq
  refine ⟨B, d, ?_, hi1, ?_⟩
  · rw [heap_set_self (heap_set_self (heap_set_self (heap_set_self hz 0 _) 1 _) 2 _) 3 _]; rfl
  · rcases hi2 with h0 | ⟨b, o, rfl, hlt, hc⟩
    · exact .inl h0
    · have hb := hlo _ rfl
      have hs : (V.alloc (.cells #[.int .i64 0, .int .i64 0, .slice none 0 0, .int .i64 0] 31)).drew.heap.size = V.heap.size + 1 := by show (V.alloc _).heap.size = _; rw [World.size_alloc]
      have hne : b ≠ V.heap.size := by
        have : V.heap.size + 1 ≤ b := hs ▸ hb
        omega
      refine .inr ⟨b, o, rfl, by simpa [World.setCell] using hlt, fun j hj => ?_⟩
      refine (cell_of_heap ?_ _).trans (hc j hj)
      rw [heap_set_ne hne, heap_set_ne hne, heap_set_ne hne, heap_set_ne hne]

set_option maxRecDepth 100000 in
set_option maxHeartbeats 16000000 in
theorem more_tail4 {W V : World} (hb : Below W.heap.size W V) (hr : Ready V) {X4 X9 L ci : Nat} {Ai A2 A3 : Option Addr} {k0 n0 : Int} {n2 d2 n3 d3 : Nat} {pa pb : PEnd} (ha : EndAt V X9 pa) (f more sf mx mn : Int)
    (hsf : min f 1500 = sf)
    (hlaw : (pa.kind ≠ 3 → sameE pa pb = true ∧ pa.steps = pb.steps) ∧ (pa.kind = 3 → beginsB pb.out pa.out = true ∧ pa.steps ≤ pb.steps ∧ (pa.steps : Int) = max sf 0))
    (hS : ∀ V2, Below V.heap.size V V2 → V2.cell? ⟨X4, 0, none⟩ = some (.int .i64 k0) ∧ V2.cell? ⟨X4, 1, none⟩ = some (.int .i64 n0) ∧ V2.cell? ⟨X4, 2, none⟩ = some (.slice A2 n2 d2) ∧ V2.cell? ⟨X4, 3, none⟩ = some (.slice A3 n3 d3))
    (hrun : ∀ V2, Below V.heap.size V V2 → Calls Tryd.prog 9 #[.agg #[.int .i64 k0, .int .i64 n0, .slice A2 n2 d2, .slice A3 n3 d3], .slice Ai L ci, .int .i64 (mx + mn)] V2 (RunPost pb V2))
    (hmx : (if sf < 0 then (0 : Int) else sf) = mx) (hmn : (if 1500 < more then (1500 : Int) else more) = mn) (hwr : IntKind.i64.wrap (mx + mn) = mx + mn) (u0 u5 u6 u7 u8 u10 u11 u12 u13 u14 u15 u16 u17 u18 u19 u20 u21 u22 u23 u24 u25 u26 u27 u28 u29 u30 u31 u32 u33 u34 u35 u36 u37 u38 u39 u40 u41 u42 u43 u44 u45 u46 u47 u48 u49 u50 u51 u52 u53 u54 u55 u56 u57 u58 u59 u60 u61 u62 u63 u64 u65 u66 u67 u68 u69 u70 u71 u72 : Value) :
    moreTail4.wp Tryd.prog (bodyPost Tryd.prog Tryd.f4 (BoolBelow true W)) { tmps := #[u0, .slice Ai L ci, .int .i64 f, .int .i64 more, .pointer (some ⟨X4, 0, none⟩), u5, u6, u7, u8, .pointer (some ⟨X9, 0, none⟩), u10, u11, u12, u13, u14, u15, u16, u17, u18, u19, u20, u21, u22, u23, u24, u25, u26, u27, u28, u29, u30, u31, u32, u33, u34, u35, u36, u37, u38, u39, u40, u41, u42, u43, u44, u45, u46, u47, u48, u49, u50, u51, u52, u53, u54, u55, u56, u57, u58, u59, u60, u61, u62, u63, u64, u65, u66, u67, u68, u69, u70, u71, u72], defers := [] } V := by
  have hend : ∀ (V2 : World) (X10 : Nat), Below V.heap.size V V2 → EndAt V2 X10 pb → ∀ (y0 y1 y3 y4 y5 y6 y7 y8 y11 y12 y13 y14 y15 y16 y17 y18 y19 y20 y21 y22 y23 y24 y25 y26 y27 y28 y29 y30 y31 y32 y33 y34 y35 y36 y37 y38 y39 y40 y41 y42 y43 y44 y45 y46 y47 y48 y49 y50 y51 y52 y53 y54 y55 y56 y57 y58 y59 y60 y61 y62 y63 y64 y65 y66 y67 y68 y69 y70 y71 y72 : Value), moreTail.wp Tryd.prog (bodyPost Tryd.prog Tryd.f4 (BoolBelow true W)) { tmps := #[y0, y1, .int .i64 f, y3, y4, y5, y6, y7, y8, .pointer (some ⟨X9, 0, none⟩), .pointer (some ⟨X10, 0, none⟩), y11, y12, y13, y14, y15, y16, y17, y18, y19, y20, y21, y22, y23, y24, y25, y26, y27, y28, y29, y30, y31, y32, y33, y34, y35, y36, y37, y38, y39, y40, y41, y42, y43, y44, y45, y46, y47, y48, y49, y50, y51, y52, y53, y54, y55, y56, y57, y58, y59, y60, y61, y62, y63, y64, y65, y66, y67, y68, y69, y70, y71, y72], defers := [] } V2 := by
    intro V2 X10 hv he y0 y1 y3 y4 y5 y6 y7 y8 y11 y12 y13 y14 y15 y16 y17 y18 y19 y20 y21 y22 y23 y24 y25 y26 y27 y28 y29 y30 y31 y32 y33 y34 y35 y36 y37 y38 y39 y40 y41 y42 y43 y44 y45 y46 y47 y48 y49 y50 y51 y52 y53 y54 y55 y56 y57 y58 y59 y60 y61 y62 y63 y64 y65 y66 y67 y68 y69 y70 y71 y72
    exact more_tail (hb.trans (hv.mono hb.size)) (hr.below hv) (ha.below hv) he f sf hsf hlaw _ _ _ _ _ _ _ _ _ _ _ _ _ _ _ _ _ _ _ _ _ _ _ _ _ _ _ _ _ _ _ _ _ _ _ _ _ _ _ _ _ _ _ _ _ _ _ _ _ _ _ _ _ _ _ _ _ _ _ _ _ _ _ _ _ _ _ _ _ _
  obtain ⟨Q, hQ⟩ : ∃ Q, bodyPost Tryd.prog Tryd.f4 (BoolBelow true W) = Q := ⟨_, rfl⟩
  have HQ := Lib.hid hQ
  rw [hQ] at hend ⊢
  clear hQ
  have HEND := Lib.hid hend
  have HS := Lib.hid hS
  have HSH := Lib.hid (fun (V2 : World) => (show Calls Tryd.prog 10 #[.int .i64 f] V2 fun e w' => e = .returned (.int .i64 sf) ∧ V2 = w' from hsf ▸ short_any f V2))
  have D1 := Lib.hid (show Below V.heap.size V V.drew from (Below.refl _ _).drew)
  have D2 := Lib.hid (show Below V.heap.size V (V.alloc (.cells #[.int .i64 0, .int .i64 0, .slice none 0 0, .int .i64 0] 31)).drew from ((Below.refl _ _).alloc (Nat.le_refl _) _).drew)
  have HE9 := Lib.hid (fun (V2 : World) (hb : Below (V.alloc (.cells #[.int .i64 0, .int .i64 0, .slice none 0 0, .int .i64 0] 31)).drew.heap.size (V.alloc (.cells #[.int .i64 0, .int .i64 0, .slice none 0 0, .int .i64 0] 31)).drew V2) => (show V2.cell? ⟨V.heap.size, 0, none⟩ = some (.int .i64 0) ∧ V2.cell? ⟨V.heap.size, 1, none⟩ = some (.int .i64 0) ∧ V2.cell? ⟨V.heap.size, 2, none⟩ = some (.slice none 0 0) ∧ V2.cell? ⟨V.heap.size, 3, none⟩ = some (.int .i64 0) ∧ ∀ i, V2.frozen? ⟨V.heap.size, i, none⟩ = false from by
    have h := end_zero V V2 hb
    exact ⟨by simp [World.cell?, h], by simp [World.cell?, h], by simp [World.cell?, h], by simp [World.cell?, h], fun i => by simp [World.frozen?, h]⟩))
  have HR1 := Lib.hid (hrun _ D1.out)
  have HR2 := Lib.hid (hrun _ D2.out)
  obtain ⟨z0, z1, z2, z3⟩ := hS V (Below.refl _ _)
  clear hS hrun hend hb hr ha hlaw hsf
  unfold moreTail4 Tryd.f4
  dsimp only
  go_wp2_with fail
  rw [← HQ.out]
  go_region_held2 (fun V2 => V2.cell? ⟨X4, 0, none⟩ = some (.int .i64 k0) ∧ V2.cell? ⟨X4, 1, none⟩ = some (.int .i64 n0) ∧ V2.cell? ⟨X4, 2, none⟩ = some (.slice A2 n2 d2) ∧ V2.cell? ⟨X4, 3, none⟩ = some (.slice A3 n3 d3))
    (first | exact HS.out _ D1.out | exact HS.out _ D2.out | exact HS.out _ (D1.out.trans (hb2.mono D1.out.size)) | exact HS.out _ (D2.out.trans (hb2.mono D2.out.size)) | exact HS.out _ ((D1.out.trans (hb2.mono D1.out.size)).alloc (Nat.le_trans D1.out.size hb2.size) _) | exact HS.out _ (((((D2.out.trans (hb2.mono D2.out.size)).setCell (p := ⟨_, _, none⟩) (Nat.le_refl _) _).setCell (p := ⟨_, _, none⟩) (Nat.le_refl _) _).setCell (p := ⟨_, _, none⟩) (Nat.le_refl _) _).setCell (p := ⟨_, _, none⟩) (Nat.le_refl _) _))
    ((first
      | (go_at_call 10; refine (HSH.out _).mono ?_; rintro en w' ⟨rfl, rfl⟩)
      | (go_at_call 9; (with_reducible refine HR2.out.mono ?_); rintro en w2 ⟨v, B, d, rfl, rfl, hE, hb2, hlo⟩; obtain ⟨e90, e91, e92, e93, e9f⟩ := HE9.out _ hb2)
      | (go_at_call 9; (with_reducible refine HR1.out.mono ?_); rintro en w2 ⟨v, B, d, rfl, rfl, hE, hb2, hlo⟩)))
  all_goals
    simp only [Exit.then]
    refine (‹∀ (a : Act) (w : World), Code.wp Tryd.prog _ _ a w → _›) _ _ ?_
    first
      | exact HEND.out _ _ ((D1.out.trans (hb2.mono D1.out.size)).alloc (Nat.le_trans D1.out.size hb2.size) _) (end_new hE) _ _ _ _ _ _ _ _ _ _ _ _ _ _ _ _ _ _ _ _ _ _ _ _ _ _ _ _ _ _ _ _ _ _ _ _ _ _ _ _ _ _ _ _ _ _ _ _ _ _ _ _ _ _ _ _ _ _ _ _ _ _ _ _ _ _ _ _ _ _
      | exact HEND.out _ _ (((((D2.out.trans (hb2.mono D2.out.size)).setCell (p := ⟨V.heap.size, 0, none⟩) (Nat.le_refl _) _).setCell (p := ⟨V.heap.size, 1, none⟩) (Nat.le_refl _) _).setCell (p := ⟨V.heap.size, 2, none⟩) (Nat.le_refl _) _).setCell (p := ⟨V.heap.size, 3, none⟩) (Nat.le_refl _) _) (end_set hb2 hlo hE) _ _ _ _ _ _ _ _ _ _ _ _ _ _ _ _ _ _ _ _ _ _ _ _ _ _ _ _ _ _ _ _ _ _ _ _ _ _ _ _ _ _ _ _ _ _ _ _ _ _ _ _ _ _ _ _ _ _ _ _ _ _ _ _ _ _ _ _ _ _
end Go.Proofs.YtnolhcdfknjncaaDoor
