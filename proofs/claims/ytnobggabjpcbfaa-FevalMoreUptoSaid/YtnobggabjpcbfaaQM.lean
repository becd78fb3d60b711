/-
  3 texts of this seat in one: B8 B9 B10.
-/
import Derived.Test.YtnobggabjpcbfaaQC
import Derived.Deep.RegionHeld2
import Derived.Test.YtnobggabjpcbfaaQB
/-
  FevalMore: what stands behind its two runs.
-/
set_option linter.unusedVariables false
set_option linter.unusedSimpArgs false
namespace Go.Proofs.Ytnobggabjpcbfaa
open Go.RowKit

/-- the code behind the second run; behind the first -/
noncomputable def moreTail : Code := match Try.f3.body with
  | some (.seq _ (.seq _ (.seq _ (.seq _ c)))) => c
  | _ => .skip
noncomputable def moreTail4 : Code := match Try.f3.body with
  | some (.seq _ (.seq _ (.seq _ c))) => c
  | _ => .skip
/-- an end that lies in a variable -/
def EndAt (V : World) (X : Nat) (pe : PEnd) : Prop := ∃ A c, V.heap[X]? = some (.cells #[.int .i64 pe.kind, .int .i64 pe.n, .slice A pe.out.length c, .int .i64 pe.steps] 35 (0, 0)) ∧ IntsIn V.heap.size V A pe.out

set_option maxRecDepth 100000 in
set_option maxHeartbeats 8000000 in
theorem more_tail {W V : World} (hb : Below W.heap.size W V) {X9 X10 : Nat} {pa pb : PEnd} (ha : EndAt V X9 pa) (hb2 : EndAt V X10 pb) (f sf : Int) (hsf : min f 1500 = sf)
    (hlaw : (pa.kind ≠ 3 → sameE pa pb = true ∧ pa.steps = pb.steps) ∧ (pa.kind = 3 → beginsB pb.out pa.out = true ∧ pa.steps ≤ pb.steps ∧ (pa.steps : Int) = max sf 0)) (u0 u1 u3 u4 u5 u6 u7 u8 u11 u12 u13 u14 u15 u16 u17 u18 u19 u20 u21 u22 u23 u24 u25 u26 u27 u28 u29 u30 u31 u32 u33 u34 u35 u36 u37 u38 u39 u40 u41 u42 u43 u44 u45 u46 u47 u48 u49 u50 u51 u52 u53 u54 u55 u56 u57 u58 u59 u60 u61 u62 u63 u64 u65 u66 u67 u68 u69 u70 u71 u72 : Value) :
    moreTail.wp Try.prog (bodyPost Try.prog Try.f3 (BoolBelow true W)) { tmps := #[u0, u1, .int .i64 f, u3, u4, u5, u6, u7, u8, .pointer (some ⟨X9, 0, none⟩), .pointer (some ⟨X10, 0, none⟩), u11, u12, u13, u14, u15, u16, u17, u18, u19, u20, u21, u22, u23, u24, u25, u26, u27, u28, u29, u30, u31, u32, u33, u34, u35, u36, u37, u38, u39, u40, u41, u42, u43, u44, u45, u46, u47, u48, u49, u50, u51, u52, u53, u54, u55, u56, u57, u58, u59, u60, u61, u62, u63, u64, u65, u66, u67, u68, u69, u70, u71, u72], defers := [] } V := by
  obtain ⟨A, c, h9, hi9⟩ := ha
  obtain ⟨B, d, h10, hi10⟩ := hb2
  have a0 : V.cell? ⟨X9, 0, none⟩ = some (.int .i64 pa.kind) := by simp [World.cell?, h9]
  have a1 : V.cell? ⟨X9, 1, none⟩ = some (.int .i64 pa.n) := by simp [World.cell?, h9]
  have a2 : V.cell? ⟨X9, 2, none⟩ = some (.slice A pa.out.length c) := by simp [World.cell?, h9]
  have a3 : V.cell? ⟨X9, 3, none⟩ = some (.int .i64 pa.steps) := by simp [World.cell?, h9]
  have b0 : V.cell? ⟨X10, 0, none⟩ = some (.int .i64 pb.kind) := by simp [World.cell?, h10]
  have b1 : V.cell? ⟨X10, 1, none⟩ = some (.int .i64 pb.n) := by simp [World.cell?, h10]
  have b2 : V.cell? ⟨X10, 2, none⟩ = some (.slice B pb.out.length d) := by simp [World.cell?, h10]
  have b3 : V.cell? ⟨X10, 3, none⟩ = some (.int .i64 pb.steps) := by simp [World.cell?, h10]
  by_cases hk : pa.kind = 3
  · obtain ⟨l1, l2, l3⟩ := hlaw.2 hk
    have hk' : (pa.kind == 3) = true := by simpa using hk
    have hk2 : (pa.kind != 3) = false := by simpa using hk
    obtain ⟨mx, hmx⟩ : ∃ mx : Int, (if sf < 0 then (0 : Int) else sf) = mx := ⟨_, rfl⟩
    have hmx1 : max sf 0 = mx := by rw [← hmx]; split <;> omega
    rw [hmx1] at l3
    have hst : ((pa.steps : Int) == mx) = true := by simpa using l3
    have hge : (pa.steps : Int) ≤ (pb.steps : Int) := by omega
    have hd : Below V.heap.size V V.drew := (Below.refl _ _).drew
    have HBG := Lib.hid (begins_any (c := d) (c' := c) V.drew hi10 hi9)
    rw [l1] at HBG
    have HSH := Lib.hid (fun (V2 : World) => (show Calls Try.prog 10 #[.int .i64 f] V2 fun e w' => e = .returned (.int .i64 sf) ∧ V2 = w' from hsf ▸ short_any f V2))
    have HK := Lib.hid (fun (V2 : World) (h : Below V.heap.size V V2) => knows_any V2)
    have HB := Lib.hid hb
    have HC := Lib.hid (fun (V2 : World) (h : Below V.heap.size V V2) => (show V2.cell? ⟨X9, 2, none⟩ = some (.slice A pa.out.length c) ∧ V2.cell? ⟨X9, 3, none⟩ = some (.int .i64 pa.steps) ∧ V2.cell? ⟨X10, 2, none⟩ = some (.slice B pb.out.length d) ∧ V2.cell? ⟨X10, 3, none⟩ = some (.int .i64 pb.steps) from ⟨cell_behind h a2, cell_behind h a3, cell_behind h b2, cell_behind h b3⟩))
    clear hlaw l1 l2 l3 hi9 hi10 hb h9 h10 hmx1 hd
    obtain ⟨Q, hQ⟩ : ∃ Q, bodyPost Try.prog Try.f3 (BoolBelow true W) = Q := ⟨_, rfl⟩
    have HQ := Lib.hid hQ
    have hQp : ∀ ch a b V, Q (.panic ch) a V → Q (.panic ch) b V → True := fun _ _ _ _ _ _ => trivial
    clear hQp
    rw [hQ]
    clear hQ
    unfold moreTail Try.f3
    dsimp only
    go_wp2_with fail
    rw [← HQ.out]
    go_region_held2 (fun V2 => V2.cell? ⟨X9, 2, none⟩ = some (.slice A pa.out.length c) ∧ V2.cell? ⟨X9, 3, none⟩ = some (.int .i64 pa.steps) ∧ V2.cell? ⟨X10, 2, none⟩ = some (.slice B pb.out.length d) ∧ V2.cell? ⟨X10, 3, none⟩ = some (.int .i64 pb.steps))
      (first | exact HC.out _ (Below.refl _ _).drew | exact HC.out _ (below_drewN (Below.refl _ _) _) | exact HC.out _ ((below_drewN (Below.refl _ _) _).trans (hv4.mono (Nat.le_refl _))))
      ((first
        | (go_at_call 12; refine HBG.out.mono ?_; rintro e V2 ⟨rfl, n1, rfl⟩)
        | (go_at_call 10; refine (HSH.out _).mono ?_; rintro en w' ⟨rfl, rfl⟩)
        | (go_at_call 8; refine (HK.out _ (by first | exact below_drewN (Below.refl _ _) _ | exact (Below.refl _ _).drew)).mono ?_; rintro e V4 ⟨rfl, hv4⟩)))
    all_goals
      go_wp2_with fail
      (try rw [← HQ.out])
      go_ret
      refine ⟨rfl, (HB.out.trans ((below_drewN (Below.refl _ V) _).mono HB.out.size)).trans (hv4.mono ?_)⟩
      exact HB.out.size
  · obtain ⟨l1, l2⟩ := hlaw.1 hk
    have hk' : (pa.kind == 3) = false := by simpa using hk
    have hk2 : (pa.kind != 3) = true := by simpa using hk
    have HS := Lib.hid (same_any (v := .agg #[.int .i64 pa.kind, .int .i64 pa.n, .slice A pa.out.length c, .int .i64 pa.steps]) (u := .agg #[.int .i64 pb.kind, .int .i64 pb.n, .slice B pb.out.length d, .int .i64 pb.steps]) V ⟨A, c, rfl, hi9⟩ ⟨B, d, rfl, hi10⟩)
    rw [l1] at HS
    have hst : ((pa.steps : Int) == (pb.steps : Int)) = true := by simp [l2]
    have HK := Lib.hid (fun (V2 : World) (h : Below V.heap.size V V2) => knows_any V2)
    have HB := Lib.hid hb
    clear hlaw l1 l2 hi9 hi10 hb h9 h10
    have HC := Lib.hid (fun (V2 : World) (h : Below V.heap.size V V2) => (show V2.cell? ⟨X9, 3, none⟩ = some (.int .i64 pa.steps) ∧ V2.cell? ⟨X10, 3, none⟩ = some (.int .i64 pb.steps) from ⟨cell_behind h a3, cell_behind h b3⟩))
    obtain ⟨Q, hQ⟩ : ∃ Q, bodyPost Try.prog Try.f3 (BoolBelow true W) = Q := ⟨_, rfl⟩
    have HQ := Lib.hid hQ
    rw [hQ]
    clear hQ
    unfold moreTail Try.f3
    dsimp only
    go_wp2_with (first
      | (go_at_call 11; refine HS.out.mono ?_; rintro e V2 ⟨rfl, hv2⟩; obtain ⟨c3, d3⟩ := HC.out _ hv2)
      | (go_at_call 8; refine (HK.out _ hv2).mono ?_; rintro e V4 ⟨rfl, hv4⟩))
    rw [← HQ.out]
    go_ret
    have h1 := HB.out.trans (hv2.mono HB.out.size)
    exact ⟨rfl, h1.trans (hv4.mono h1.size)⟩
end Go.Proofs.Ytnobggabjpcbfaa

/-
  FevalMore: what stands behind its first run.
-/
set_option linter.unusedVariables false
set_option linter.unusedSimpArgs false
namespace Go.Proofs.Ytnobggabjpcbfaa
open Go.RowKit

theorem EndAt.below {V V2 : World} {X : Nat} {pe : PEnd} (h : EndAt V X pe) (hb : Below V.heap.size V V2) : EndAt V2 X pe := by
  obtain ⟨A, c, h1, hi⟩ := h
  have hX : X < V.heap.size := by
    rcases Nat.lt_or_ge X V.heap.size with h | h
    · exact h
    · rw [Array.getElem?_eq_none (by omega)] at h1; cases h1
  exact ⟨A, c, (hb.block X hX).trans h1, (hi.below hb).mono hb.size⟩
theorem end_zero (V V2 : World) (hb : Below (V.alloc (.cells #[.int .i64 0, .int .i64 0, .slice none 0 0, .int .i64 0] 35)).drew.heap.size (V.alloc (.cells #[.int .i64 0, .int .i64 0, .slice none 0 0, .int .i64 0] 35)).drew V2) : V2.heap[V.heap.size]? = some (.cells #[.int .i64 0, .int .i64 0, .slice none 0 0, .int .i64 0] 35 (0, 0)) :=
  (hb.block V.heap.size (show V.heap.size < (V.alloc (.cells #[.int .i64 0, .int .i64 0, .slice none 0 0, .int .i64 0] 35)).heap.size from by rw [World.size_alloc]; exact Nat.lt_succ_self _)).trans (World.alloc_heap_new V _)
/-- the run first, its end then laid -/
theorem end_new {V2 : World} {B : Option Addr} {d : Nat} {pb : PEnd} (hE : EndV V2 pb (.agg #[.int .i64 pb.kind, .int .i64 pb.n, .slice B pb.out.length d, .int .i64 pb.steps])) :
    EndAt (V2.alloc (.cells #[.int .i64 pb.kind, .int .i64 pb.n, .slice B pb.out.length d, .int .i64 pb.steps] 35)) V2.heap.size pb := by
  have FE := hE.below (w' := V2.alloc (.cells #[.int .i64 pb.kind, .int .i64 pb.n, .slice B pb.out.length d, .int .i64 pb.steps] 35)) ((Below.refl _ _).alloc (Nat.le_refl _) _)
  obtain ⟨A', c', heq, hi⟩ := FE
  simp only [Value.agg.injEq, Array.mk.injEq, List.cons.injEq, Value.slice.injEq, true_and, and_true] at heq
  obtain ⟨rfl, rfl⟩ := heq
  exact ⟨_, _, World.alloc_heap_new V2 _, hi⟩
/-- the end's place first, filled behind the run -/
theorem end_set {V V2 : World} {B : Option Addr} {d : Nat} {pb : PEnd} (hb : Below (V.alloc (.cells #[.int .i64 0, .int .i64 0, .slice none 0 0, .int .i64 0] 35)).drew.heap.size (V.alloc (.cells #[.int .i64 0, .int .i64 0, .slice none 0 0, .int .i64 0] 35)).drew V2) (hlo : ∀ a, B = some a → (V.alloc (.cells #[.int .i64 0, .int .i64 0, .slice none 0 0, .int .i64 0] 35)).drew.heap.size ≤ a.block) (hE : EndV V2 pb (.agg #[.int .i64 pb.kind, .int .i64 pb.n, .slice B pb.out.length d, .int .i64 pb.steps])) :
    EndAt ((((V2.setCell ⟨V.heap.size, 0, none⟩ (.int .i64 pb.kind)).setCell ⟨V.heap.size, 1, none⟩ (.int .i64 pb.n)).setCell ⟨V.heap.size, 2, none⟩ (.slice B pb.out.length d)).setCell ⟨V.heap.size, 3, none⟩ (.int .i64 pb.steps)) V.heap.size pb := by
  have hz := end_zero V V2 hb
  obtain ⟨A', c', heq, hi1, hi2⟩ := hE
  simp only [Value.agg.injEq, Array.mk.injEq, List.cons.injEq, Value.slice.injEq, true_and, and_true] at heq
  obtain ⟨rfl, rfl⟩ := heq
  refine ⟨B, d, ?_, hi1, ?_⟩
  · rw [heap_set_self (heap_set_self (heap_set_self (heap_set_self hz 0 _) 1 _) 2 _) 3 _]; rfl
  · rcases hi2 with h0 | ⟨b, o, rfl, hlt, hc⟩
    · exact .inl h0
    · have hb := hlo _ rfl
      have hs : (V.alloc (.cells #[.int .i64 0, .int .i64 0, .slice none 0 0, .int .i64 0] 35)).drew.heap.size = V.heap.size + 1 := by show (V.alloc _).heap.size = _; rw [World.size_alloc]
      have hne : b ≠ V.heap.size := by
        have : V.heap.size + 1 ≤ b := hs ▸ hb
        omega
      refine .inr ⟨b, o, rfl, by simpa [World.setCell] using hlt, fun j hj => ?_⟩
      refine (cell_of_heap ?_ _).trans (hc j hj)
      rw [heap_set_ne hne, heap_set_ne hne, heap_set_ne hne, heap_set_ne hne]

set_option maxRecDepth 100000 in
set_option maxHeartbeats 16000000 in
theorem more_tail4 {W V : World} (hb : Below W.heap.size W V) {X4 X9 L ci : Nat} {Ai A2 A3 : Option Addr} {k0 : Bool} {n0 : Int} {n2 d2 n3 d3 : Nat} {pa pb : PEnd} (ha : EndAt V X9 pa) (f more sf mx mn : Int)
    (hsf : min f 1500 = sf)
    (hlaw : (pa.kind ≠ 3 → sameE pa pb = true ∧ pa.steps = pb.steps) ∧ (pa.kind = 3 → beginsB pb.out pa.out = true ∧ pa.steps ≤ pb.steps ∧ (pa.steps : Int) = max sf 0))
    (hS : ∀ V2, Below V.heap.size V V2 → V2.cell? ⟨X4, 0, none⟩ = some (.slice A2 n2 d2) ∧ V2.cell? ⟨X4, 1, none⟩ = some (.slice A3 n3 d3) ∧ V2.cell? ⟨X4, 2, none⟩ = some (.bool k0) ∧ V2.cell? ⟨X4, 3, none⟩ = some (.int .i64 n0))
    (hrun : ∀ V2, Below V.heap.size V V2 → Calls Try.prog 9 #[.agg #[.slice A2 n2 d2, .slice A3 n3 d3, .bool k0, .int .i64 n0], .slice Ai L ci, .int .i64 (mx + mn)] V2 (RunPost pb V2))
    (hmx : (if sf < 0 then (0 : Int) else sf) = mx) (hmn : (if 1500 < more then (1500 : Int) else more) = mn) (hwr : IntKind.i64.wrap (mx + mn) = mx + mn) (u0 u5 u6 u7 u8 u10 u11 u12 u13 u14 u15 u16 u17 u18 u19 u20 u21 u22 u23 u24 u25 u26 u27 u28 u29 u30 u31 u32 u33 u34 u35 u36 u37 u38 u39 u40 u41 u42 u43 u44 u45 u46 u47 u48 u49 u50 u51 u52 u53 u54 u55 u56 u57 u58 u59 u60 u61 u62 u63 u64 u65 u66 u67 u68 u69 u70 u71 u72 : Value) :
    moreTail4.wp Try.prog (bodyPost Try.prog Try.f3 (BoolBelow true W)) { tmps := #[u0, .slice Ai L ci, .int .i64 f, .int .i64 more, .pointer (some ⟨X4, 0, none⟩), u5, u6, u7, u8, .pointer (some ⟨X9, 0, none⟩), u10, u11, u12, u13, u14, u15, u16, u17, u18, u19, u20, u21, u22, u23, u24, u25, u26, u27, u28, u29, u30, u31, u32, u33, u34, u35, u36, u37, u38, u39, u40, u41, u42, u43, u44, u45, u46, u47, u48, u49, u50, u51, u52, u53, u54, u55, u56, u57, u58, u59, u60, u61, u62, u63, u64, u65, u66, u67, u68, u69, u70, u71, u72], defers := [] } V := by
  have hend : ∀ (V2 : World) (X10 : Nat), Below V.heap.size V V2 → EndAt V2 X10 pb → ∀ (y0 y1 y3 y4 y5 y6 y7 y8 y11 y12 y13 y14 y15 y16 y17 y18 y19 y20 y21 y22 y23 y24 y25 y26 y27 y28 y29 y30 y31 y32 y33 y34 y35 y36 y37 y38 y39 y40 y41 y42 y43 y44 y45 y46 y47 y48 y49 y50 y51 y52 y53 y54 y55 y56 y57 y58 y59 y60 y61 y62 y63 y64 y65 y66 y67 y68 y69 y70 y71 y72 : Value), moreTail.wp Try.prog (bodyPost Try.prog Try.f3 (BoolBelow true W)) { tmps := #[y0, y1, .int .i64 f, y3, y4, y5, y6, y7, y8, .pointer (some ⟨X9, 0, none⟩), .pointer (some ⟨X10, 0, none⟩), y11, y12, y13, y14, y15, y16, y17, y18, y19, y20, y21, y22, y23, y24, y25, y26, y27, y28, y29, y30, y31, y32, y33, y34, y35, y36, y37, y38, y39, y40, y41, y42, y43, y44, y45, y46, y47, y48, y49, y50, y51, y52, y53, y54, y55, y56, y57, y58, y59, y60, y61, y62, y63, y64, y65, y66, y67, y68, y69, y70, y71, y72], defers := [] } V2 := by
    intro V2 X10 hv he y0 y1 y3 y4 y5 y6 y7 y8 y11 y12 y13 y14 y15 y16 y17 y18 y19 y20 y21 y22 y23 y24 y25 y26 y27 y28 y29 y30 y31 y32 y33 y34 y35 y36 y37 y38 y39 y40 y41 y42 y43 y44 y45 y46 y47 y48 y49 y50 y51 y52 y53 y54 y55 y56 y57 y58 y59 y60 y61 y62 y63 y64 y65 y66 y67 y68 y69 y70 y71 y72
    exact more_tail (hb.trans (hv.mono hb.size)) (ha.below hv) he f sf hsf hlaw _ _ _ _ _ _ _ _ _ _ _ _ _ _ _ _ _ _ _ _ _ _ _ _ _ _ _ _ _ _ _ _ _ _ _ _ _ _ _ _ _ _ _ _ _ _ _ _ _ _ _ _ _ _ _ _ _ _ _ _ _ _ _ _ _ _ _ _ _ _
  obtain ⟨Q, hQ⟩ : ∃ Q, bodyPost Try.prog Try.f3 (BoolBelow true W) = Q := ⟨_, rfl⟩
  have HQ := Lib.hid hQ
  rw [hQ] at hend ⊢
  clear hQ
  have HEND := Lib.hid hend
  have HS := Lib.hid hS
  have HSH := Lib.hid (fun (V2 : World) => (show Calls Try.prog 10 #[.int .i64 f] V2 fun e w' => e = .returned (.int .i64 sf) ∧ V2 = w' from hsf ▸ short_any f V2))
  have D1 := Lib.hid (show Below V.heap.size V V.drew from (Below.refl _ _).drew)
  have D2 := Lib.hid (show Below V.heap.size V (V.alloc (.cells #[.int .i64 0, .int .i64 0, .slice none 0 0, .int .i64 0] 35)).drew from ((Below.refl _ _).alloc (Nat.le_refl _) _).drew)
  have HE9 := Lib.hid (fun (V2 : World) (hb : Below (V.alloc (.cells #[.int .i64 0, .int .i64 0, .slice none 0 0, .int .i64 0] 35)).drew.heap.size (V.alloc (.cells #[.int .i64 0, .int .i64 0, .slice none 0 0, .int .i64 0] 35)).drew V2) => (show V2.cell? ⟨V.heap.size, 0, none⟩ = some (.int .i64 0) ∧ V2.cell? ⟨V.heap.size, 1, none⟩ = some (.int .i64 0) ∧ V2.cell? ⟨V.heap.size, 2, none⟩ = some (.slice none 0 0) ∧ V2.cell? ⟨V.heap.size, 3, none⟩ = some (.int .i64 0) ∧ ∀ i, V2.frozen? ⟨V.heap.size, i, none⟩ = false from by
    have h := end_zero V V2 hb
    exact ⟨by simp [World.cell?, h], by simp [World.cell?, h], by simp [World.cell?, h], by simp [World.cell?, h], fun i => by simp [World.frozen?, h]⟩))
  have HR1 := Lib.hid (hrun _ D1.out)
  have HR2 := Lib.hid (hrun _ D2.out)
  obtain ⟨z0, z1, z2, z3⟩ := hS V (Below.refl _ _)
  clear hS hrun hend hb ha hlaw hsf
  unfold moreTail4 Try.f3
  dsimp only
  go_wp2_with fail
  rw [← HQ.out]
  go_region_held2 (fun V2 => V2.cell? ⟨X4, 0, none⟩ = some (.slice A2 n2 d2) ∧ V2.cell? ⟨X4, 1, none⟩ = some (.slice A3 n3 d3) ∧ V2.cell? ⟨X4, 2, none⟩ = some (.bool k0) ∧ V2.cell? ⟨X4, 3, none⟩ = some (.int .i64 n0))
    (first | exact HS.out _ D1.out | exact HS.out _ D2.out | exact HS.out _ (D1.out.trans (hb2.mono D1.out.size)) | exact HS.out _ (D2.out.trans (hb2.mono D2.out.size)) | exact HS.out _ ((D1.out.trans (hb2.mono D1.out.size)).alloc (Nat.le_trans D1.out.size hb2.size) _) | exact HS.out _ (((((D2.out.trans (hb2.mono D2.out.size)).setCell (p := ⟨_, _, none⟩) (Nat.le_refl _) _).setCell (p := ⟨_, _, none⟩) (Nat.le_refl _) _).setCell (p := ⟨_, _, none⟩) (Nat.le_refl _) _).setCell (p := ⟨_, _, none⟩) (Nat.le_refl _) _))
    ((first
      | (go_at_call 10; refine (HSH.out _).mono ?_; rintro en w' ⟨rfl, rfl⟩)
      | (go_at_call 9; (with_reducible refine HR2.out.mono ?_); rintro en w2 ⟨v, B, d, rfl, rfl, hE, hb2, hlo⟩; obtain ⟨e90, e91, e92, e93, e9f⟩ := HE9.out _ hb2)
      | (go_at_call 9; (with_reducible refine HR1.out.mono ?_); rintro en w2 ⟨v, B, d, rfl, rfl, hE, hb2, hlo⟩)))
  all_goals
    simp only [Exit.then]
    refine (‹∀ (a : Act) (w : World), Code.wp Try.prog _ _ a w → _›) _ _ ?_
    first
      | exact HEND.out _ _ ((D1.out.trans (hb2.mono D1.out.size)).alloc (Nat.le_trans D1.out.size hb2.size) _) (end_new hE) _ _ _ _ _ _ _ _ _ _ _ _ _ _ _ _ _ _ _ _ _ _ _ _ _ _ _ _ _ _ _ _ _ _ _ _ _ _ _ _ _ _ _ _ _ _ _ _ _ _ _ _ _ _ _ _ _ _ _ _ _ _ _ _ _ _ _ _ _ _
      | exact HEND.out _ _ (((((D2.out.trans (hb2.mono D2.out.size)).setCell (p := ⟨V.heap.size, 0, none⟩) (Nat.le_refl _) _).setCell (p := ⟨V.heap.size, 1, none⟩) (Nat.le_refl _) _).setCell (p := ⟨V.heap.size, 2, none⟩) (Nat.le_refl _) _).setCell (p := ⟨V.heap.size, 3, none⟩) (Nat.le_refl _) _) (end_set hb2 hlo hE) _ _ _ _ _ _ _ _ _ _ _ _ _ _ _ _ _ _ _ _ _ _ _ _ _ _ _ _ _ _ _ _ _ _ _ _ _ _ _ _ _ _ _ _ _ _ _ _ _ _ _ _ _ _ _ _ _ _ _ _ _ _ _ _ _ _ _ _ _ _
end Go.Proofs.Ytnobggabjpcbfaa

/-
  FevalMore: the walk.
-/
set_option linter.unusedVariables false
set_option linter.unusedSimpArgs false
namespace Go.Proofs.Ytnobggabjpcbfaa
open Go.RowKit

/-- both runs' ends, as the law asks of them -/
theorem more_law (p : FlatP) (inp : List Int) (f more : Int) (hm : 0 ≤ more) :
    ((runE p inp (min f 1500)).kind ≠ 3 → sameE (runE p inp (min f 1500)) (runE p inp (max (min f 1500) 0 + min more 1500)) = true ∧ (runE p inp (min f 1500)).steps = (runE p inp (max (min f 1500) 0 + min more 1500)).steps) ∧
    ((runE p inp (min f 1500)).kind = 3 → beginsB (runE p inp (max (min f 1500) 0 + min more 1500)).out (runE p inp (min f 1500)).out = true ∧ (runE p inp (min f 1500)).steps ≤ (runE p inp (max (min f 1500) 0 + min more 1500)).steps ∧
      ((runE p inp (min f 1500)).steps : Int) = max (min f 1500) 0) := by
  unfold runE
  by_cases hr : rightC p = 0
  · rw [if_pos hr, if_pos hr]
    have h1 := fuelOf_int (min f 1500)
    have h2 := fuelOf_int (max (min f 1500) 0 + min more 1500)
    have hle : fuelOf (min f 1500) ≤ fuelOf (max (min f 1500) 0 + min more 1500) := by omega
    obtain ⟨ha, hb⟩ := moreF_ends (funs := p.funs) (t := p.main) (inp := inp.take 4096) hle
    unfold runF
    constructor
    · intro hk
      rw [ha hk]
      exact ⟨by simp [sameE], rfl⟩
    · intro hk
      obtain ⟨h3, h4, h5⟩ := hb hk
      exact ⟨by simp only [beginsB, decide_eq_true_eq]; exact h3, h4, by rw [h5]; omega⟩
  · rw [if_neg hr, if_neg hr]
    exact ⟨fun _ => ⟨by simp [sameE], rfl⟩, fun h => by simp at h⟩

set_option maxRecDepth 100000 in
set_option maxHeartbeats 4000000 in
theorem more_guard {p : FlatP} {v : Array Value} (W : World) (hin : FlatIn W.heap.size W p v) (hrg : (∀ g ∈ p.funs, rngA g.body) ∧ rngA p.main) (inp : List Int) (Ai : Option Addr) (ci : Nat) (f more : Int) (hg : fewF p inp = false ∨ more < 0) :
    Calls Try.prog 3 #[.agg v, .slice Ai inp.length ci, .int .i64 f, .int .i64 more] W (BoolBelow true W) := by
  obtain ⟨A2, n2, d2, A3, n3, d3, k0, n0, rfl⟩ := hin.shape
  have hb0 : Below W.heap.size W (W.alloc (.cells #[.slice A2 n2 d2, .slice A3 n3 d3, .bool k0, .int .i64 n0] 29)) := (Below.refl _ _).alloc (Nat.le_refl _) _
  have HF := Lib.hid (fewF_any _ (hin.later hb0) inp Ai ci)
  have HB := Lib.hid hb0
  clear hin hb0
  generalize inp.length = L at *
  cases hfw : fewF p inp with
  | false =>
    rw [hfw] at HF
    clear hfw hg
    go_enter Try.func3, Try.ntmps3
    go_wp2_with fail
    refine HF.out.mono ?_
    rintro e w' ⟨rfl, hb1⟩
    have HK := Lib.hid (knows_any w')
    have HB1 := Lib.hid (HB.out.trans (hb1.mono HB.out.size))
    clear hb1
    go_wp2_with (go_at_call 8; refine HK.out.mono ?_; rintro e w2 ⟨rfl, hb2⟩)
    go_ret
    exact ⟨rfl, HB1.out.trans (hb2.mono HB1.out.size)⟩
  | true =>
    rw [hfw] at HF hg
    have hm : more < 0 := by simpa using hg
    clear hfw hg
    go_enter Try.func3, Try.ntmps3
    go_wp2_with fail
    refine HF.out.mono ?_
    rintro e w' ⟨rfl, hb1⟩
    have HK := Lib.hid (knows_any w')
    have HB1 := Lib.hid (HB.out.trans (hb1.mono HB.out.size))
    clear hb1
    go_wp2_with (go_at_call 8; refine HK.out.mono ?_; rintro e w2 ⟨rfl, hb2⟩)
    go_ret
    exact ⟨rfl, HB1.out.trans (hb2.mono HB1.out.size)⟩

set_option maxRecDepth 100000 in
set_option maxHeartbeats 8000000 in
theorem more_walk {p : FlatP} {v : Array Value} (W : World) (hin : FlatIn W.heap.size W p v) (hrg : (∀ g ∈ p.funs, rngA g.body) ∧ rngA p.main) (inp : List Int) (Ai : Option Addr) (ci : Nat) (hi : IntsIn W.heap.size W Ai inp) (hci : inp.length ≤ ci) (f more : Int) (hf : fewF p inp = true) (hm : 0 ≤ more) :
    Calls Try.prog 3 #[.agg v, .slice Ai inp.length ci, .int .i64 f, .int .i64 more] W (BoolBelow true W) := by
  obtain ⟨A2, n2, d2, A3, n3, d3, k0, n0, rfl⟩ := hin.shape
  have hsm := few_small hf hrg
  obtain ⟨sf, hsf⟩ : ∃ sf, min f 1500 = sf := ⟨_, rfl⟩
  have hlaw := more_law p inp f more hm
  rw [hsf] at hlaw
  obtain ⟨W0, hW0⟩ : ∃ W0, W.alloc (.cells #[.slice A2 n2 d2, .slice A3 n3 d3, .bool k0, .int .i64 n0] 29) = W0 := ⟨_, rfl⟩
  have hb0 : Below W.heap.size W W0 := by rw [← hW0]; exact (Below.refl _ _).alloc (Nat.le_refl _) _
  have hs0 : W.heap.size < W0.heap.size := by rw [← hW0]; simp
  have h00 : W0.heap[W.heap.size]? = some (.cells #[.slice A2 n2 d2, .slice A3 n3 d3, .bool k0, .int .i64 n0] 29 (0, 0)) := by rw [← hW0]; exact World.alloc_heap_new W _
  have HF := Lib.hid (fewF_any W0 (hin.later hb0) inp Ai ci)
  rw [hf] at HF
  have hrun := fun (g : Int) (V : World) (hV : Below W0.heap.size W0 V) => run_ready (hin.later (hb0.trans (hV.mono (Nat.le_of_lt hs0)))) hsm (((hi.below hb0).below (hV.mono (Nat.le_of_lt hs0))).mono (Nat.le_trans (Nat.le_of_lt hs0) hV.size)) hci g
  have hS := fun (V : World) (hV : Below W0.heap.size W0 V) => (show V.cell? ⟨W.heap.size, 0, none⟩ = some (.slice A2 n2 d2) ∧ V.cell? ⟨W.heap.size, 1, none⟩ = some (.slice A3 n3 d3) ∧ V.cell? ⟨W.heap.size, 2, none⟩ = some (.bool k0) ∧ V.cell? ⟨W.heap.size, 3, none⟩ = some (.int .i64 n0) from by
    have h := (hV.block W.heap.size hs0).trans h00
    simp [World.cell?, h])
  have HSH := Lib.hid (fun (V : World) => (show Calls Try.prog 10 #[.int .i64 f] V fun e w' => e = .returned (.int .i64 sf) ∧ V = w' from hsf ▸ short_any f V))
  have hsf2 : sf ≤ 1500 := by omega
  obtain ⟨mx, hmx⟩ : ∃ mx : Int, (if sf < 0 then (0 : Int) else sf) = mx := ⟨_, rfl⟩
  obtain ⟨mn, hmn⟩ : ∃ mn : Int, (if 1500 < more then (1500 : Int) else more) = mn := ⟨_, rfl⟩
  have hmx1 : max sf 0 = mx := by rw [← hmx]; split <;> omega
  have hmn1 : min more 1500 = mn := by rw [← hmn]; split <;> omega
  have hsum : max sf 0 + min more 1500 = mx + mn := by rw [hmx1, hmn1]
  rw [hsum] at hlaw
  have hmb : 0 ≤ mx ∧ mx ≤ 1500 ∧ 0 ≤ mn ∧ mn ≤ 1500 := by omega
  have hwr : IntKind.i64.wrap (mx + mn) = mx + mn := by rw [IntKind.wrap_i64]; omega
  have HTAIL := Lib.hid (fun (V3 : World) (X9 : Nat) (hV : Below W0.heap.size W0 V3) (he : EndAt V3 X9 (runE p inp sf)) (y0 y5 y6 y7 y8 y10 y11 y12 y13 y14 y15 y16 y17 y18 y19 y20 y21 y22 y23 y24 y25 y26 y27 y28 y29 y30 y31 y32 y33 y34 y35 y36 y37 y38 y39 y40 y41 y42 y43 y44 y45 y46 y47 y48 y49 y50 y51 y52 y53 y54 y55 y56 y57 y58 y59 y60 y61 y62 y63 y64 y65 y66 y67 y68 y69 y70 y71 y72 : Value) =>
    (show moreTail4.wp Try.prog (bodyPost Try.prog Try.f3 (BoolBelow true W)) { tmps := #[y0, .slice Ai inp.length ci, .int .i64 f, .int .i64 more, .pointer (some ⟨W.heap.size, 0, none⟩), y5, y6, y7, y8, .pointer (some ⟨X9, 0, none⟩), y10, y11, y12, y13, y14, y15, y16, y17, y18, y19, y20, y21, y22, y23, y24, y25, y26, y27, y28, y29, y30, y31, y32, y33, y34, y35, y36, y37, y38, y39, y40, y41, y42, y43, y44, y45, y46, y47, y48, y49, y50, y51, y52, y53, y54, y55, y56, y57, y58, y59, y60, y61, y62, y63, y64, y65, y66, y67, y68, y69, y70, y71, y72], defers := [] } V3 from
      more_tail4 (hb0.trans (hV.mono (Nat.le_of_lt hs0))) he f more sf mx mn hsf hlaw (fun V2 h2 => hS V2 (hV.trans (h2.mono hV.size))) (fun V2 h2 => hrun (mx + mn) V2 (hV.trans (h2.mono hV.size))) hmx hmn hwr _ _ _ _ _ _ _ _ _ _ _ _ _ _ _ _ _ _ _ _ _ _ _ _ _ _ _ _ _ _ _ _ _ _ _ _ _ _ _ _ _ _ _ _ _ _ _ _ _ _ _ _ _ _ _ _ _ _ _ _ _ _ _ _ _ _ _ _))
  have HRUN := Lib.hid (hrun sf)
  have HS := Lib.hid hS
  have HB0 := Lib.hid hb0
  clear hmx1 hmn1 hsum hmb hwr hmx hmn hrun hS
  clear hin hb0 hs0 h00 hi hlaw hsf hf hrg hsm
  generalize inp.length = L at *
  obtain ⟨y0, y1, y2, y3⟩ := HS.out W0 (Below.refl _ _)
  go_enter Try.func3, Try.ntmps3
  go_wp2_with fail
  refine HF.out.mono ?_
  rintro e w1 ⟨rfl, hb1⟩
  obtain ⟨z0, z1, z2, z3⟩ := HS.out w1 hb1
  have HB1 := Lib.hid hb1
  clear hb1
  go_wp2_with fail
  have D1 := Lib.hid (show Below W0.heap.size W0 w1.drew from HB1.out.drew)
  have D2 := Lib.hid (show Below W0.heap.size W0 (w1.alloc (.cells #[.int .i64 0, .int .i64 0, .slice none 0 0, .int .i64 0] 35)).drew from (HB1.out.alloc HB1.out.size _).drew)
  have HE9 := Lib.hid (fun (V2 : World) (hb : Below (w1.alloc (.cells #[.int .i64 0, .int .i64 0, .slice none 0 0, .int .i64 0] 35)).drew.heap.size (w1.alloc (.cells #[.int .i64 0, .int .i64 0, .slice none 0 0, .int .i64 0] 35)).drew V2) => (show V2.cell? ⟨w1.heap.size, 0, none⟩ = some (.int .i64 0) ∧ V2.cell? ⟨w1.heap.size, 1, none⟩ = some (.int .i64 0) ∧ V2.cell? ⟨w1.heap.size, 2, none⟩ = some (.slice none 0 0) ∧ V2.cell? ⟨w1.heap.size, 3, none⟩ = some (.int .i64 0) ∧ ∀ i, V2.frozen? ⟨w1.heap.size, i, none⟩ = false from by
    have h := end_zero w1 V2 hb
    exact ⟨by simp [World.cell?, h], by simp [World.cell?, h], by simp [World.cell?, h], by simp [World.cell?, h], fun i => by simp [World.frozen?, h]⟩))
  have HR1 := Lib.hid (HRUN.out _ D1.out)
  have HR2 := Lib.hid (HRUN.out _ D2.out)
  go_region_held2 (fun V => V.cell? ⟨W.heap.size, 0, none⟩ = some (.slice A2 n2 d2) ∧ V.cell? ⟨W.heap.size, 1, none⟩ = some (.slice A3 n3 d3) ∧ V.cell? ⟨W.heap.size, 2, none⟩ = some (.bool k0) ∧ V.cell? ⟨W.heap.size, 3, none⟩ = some (.int .i64 n0))
    (first | exact HS.out _ D1.out | exact HS.out _ D2.out | exact HS.out _ (D1.out.trans (hb2.mono D1.out.size)) | exact HS.out _ (D2.out.trans (hb2.mono D2.out.size)) | exact HS.out _ ((D1.out.trans (hb2.mono D1.out.size)).alloc (Nat.le_trans D1.out.size hb2.size) _) | exact HS.out _ (((((D2.out.trans (hb2.mono D2.out.size)).setCell (p := ⟨_, _, none⟩) HB1.out.size _).setCell (p := ⟨_, _, none⟩) HB1.out.size _).setCell (p := ⟨_, _, none⟩) HB1.out.size _).setCell (p := ⟨_, _, none⟩) HB1.out.size _))
    ((first
      | (go_at_call 10; refine (HSH.out _).mono ?_; rintro en w' ⟨rfl, rfl⟩)
      | (go_at_call 9; (with_reducible refine HR2.out.mono ?_); rintro en w2 ⟨v, A, c, rfl, rfl, hE, hb2, hlo⟩; obtain ⟨e90, e91, e92, e93, e9f⟩ := HE9.out _ hb2)
      | (go_at_call 9; (with_reducible refine HR1.out.mono ?_); rintro en w2 ⟨v, A, c, rfl, rfl, hE, hb2, hlo⟩)))
  all_goals
    simp only [Exit.then]
    refine (‹∀ (a : Act) (w : World), Code.wp Try.prog _ _ a w → _›) _ _ ?_
    first
      | exact HTAIL.out _ _ ((D1.out.trans (hb2.mono D1.out.size)).alloc (Nat.le_trans D1.out.size hb2.size) _) (end_new hE) _ _ _ _ _ _ _ _ _ _ _ _ _ _ _ _ _ _ _ _ _ _ _ _ _ _ _ _ _ _ _ _ _ _ _ _ _ _ _ _ _ _ _ _ _ _ _ _ _ _ _ _ _ _ _ _ _ _ _ _ _ _ _ _ _ _ _ _
      | exact HTAIL.out _ _ (((((D2.out.trans (hb2.mono D2.out.size)).setCell (p := ⟨w1.heap.size, 0, none⟩) HB1.out.size _).setCell (p := ⟨w1.heap.size, 1, none⟩) HB1.out.size _).setCell (p := ⟨w1.heap.size, 2, none⟩) HB1.out.size _).setCell (p := ⟨w1.heap.size, 3, none⟩) HB1.out.size _) (end_set hb2 hlo hE) _ _ _ _ _ _ _ _ _ _ _ _ _ _ _ _ _ _ _ _ _ _ _ _ _ _ _ _ _ _ _ _ _ _ _ _ _ _ _ _ _ _ _ _ _ _ _ _ _ _ _ _ _ _ _ _ _ _ _ _ _ _ _ _ _ _ _ _
end Go.Proofs.Ytnobggabjpcbfaa
