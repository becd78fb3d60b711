/-
  CevalMore: what stands behind its two runs.
-/
import Derived.Test.YtnolhcdfknjncaaDoorL5
import Derived.Test.YtnolhcdfknjncaaDoorP1
set_option linter.unusedVariables false
set_option linter.unusedSimpArgs false
namespace Go.Proofs.YtnolhcdfknjncaaDoor
open Go.RowKit

/-- the code behind the second run; behind the first -/
noncomputable def moreTail : Code := match Tryd.f4.body with
  | some (.seq _ (.seq _ (.seq _ (.seq _ c)))) => c
  | _ => .skip
noncomputable def moreTail4 : Code := match Tryd.f4.body with
  | some (.seq _ (.seq _ (.seq _ c))) => c
  | _ => .skip
/-- an end that lies in a variable -/
def EndAt (V : World) (X : Nat) (pe : PEnd) : Prop := ∃ A c, V.heap[X]? = some (.cells #[.int .i64 pe.kind, .int .i64 pe.n, .slice A pe.out.length c, .int .i64 pe.steps] 31 (0, 0)) ∧ IntsIn V.heap.size V A pe.out

set_option maxRecDepth 100000 in
set_option maxHeartbeats 8000000 in
theorem more_tail {W V : World} (hb : Below W.heap.size W V) (hr : Ready V) {X9 X10 : Nat} {pa pb : PEnd} (ha : EndAt V X9 pa) (hb2 : EndAt V X10 pb) (f sf : Int) (hsf : min f 1500 = sf)
    (hlaw : (pa.kind ≠ 3 → sameE pa pb = true ∧ pa.steps = pb.steps) ∧ (pa.kind = 3 → beginsB pb.out pa.out = true ∧ pa.steps ≤ pb.steps ∧ (pa.steps : Int) = max sf 0)) (u0 u1 u3 u4 u5 u6 u7 u8 u11 u12 u13 u14 u15 u16 u17 u18 u19 u20 u21 u22 u23 u24 u25 u26 u27 u28 u29 u30 u31 u32 u33 u34 u35 u36 u37 u38 u39 u40 u41 u42 u43 u44 u45 u46 u47 u48 u49 u50 u51 u52 u53 u54 u55 u56 u57 u58 u59 u60 u61 u62 u63 u64 u65 u66 u67 u68 u69 u70 u71 u72 : Value) :
    moreTail.wp Tryd.prog (bodyPost Tryd.prog Tryd.f4 (BoolBelow true W)) { tmps := #[u0, u1, .int .i64 f, u3, u4, u5, u6, u7, u8, .pointer (some ⟨X9, 0, none⟩), .pointer (some ⟨X10, 0, none⟩), u11, u12, u13, u14, u15, u16, u17, u18, u19, u20, u21, u22, u23, u24, u25, u26, u27, u28, u29, u30, u31, u32, u33, u34, u35, u36, u37, u38, u39, u40, u41, u42, u43, u44, u45, u46, u47, u48, u49, u50, u51, u52, u53, u54, u55, u56, u57, u58, u59, u60, u61, u62, u63, u64, u65, u66, u67, u68, u69, u70, u71, u72], defers := [] } V := by
  obtain ⟨A, c, h9, hi9⟩ := ha
  obtain ⟨B, d, h10, hi10⟩ := hb2
  have a0 : V.cell? ⟨X9, 0, none⟩ = some (.int .i64 pa.kind) := by simp [World.cell?, h9]
  have a1 : V.cell? ⟨X9, 1, none⟩ = some (.int .i64 pa.n) := by simp [World.cell?, h9]
  have a2 : V.cell? ⟨X9, 2, none⟩ = some (.slice A pa.out.length c) := by simp [World.cell?, h9]
  have a3 : V.cell? ⟨X9, 3, none⟩ = some (.int .i64 pa.steps) := by simp [World.cell?, h9]
  have b0 : V.cell? ⟨X10, 0, none⟩ = some (.int .i64 pb.kind) := by simp [World.cell?, h10]
  have b1 : V.cell? ⟨X10, 1, none⟩ = some (.int .i64 pb.n) := by simp [World.cell?, h10]
  have b2 : V.cell? ⟨X10, 2, none⟩ = some (.slice B pb.out.length d) := by simp [World.cell?, h10]
  have b3 : V.cell? ⟨X10, 3, none⟩ = some (.int .i64 pb.steps) := by simp [World.cell?, h10]
  by_cases hk : pa.kind = 3
  · obtain ⟨l1, l2, l3⟩ := hlaw.2 hk
    have hk' : (pa.kind == 3) = true := by simpa using hk
    have hk2 : (pa.kind != 3) = false := by simpa using hk
    obtain ⟨mx, hmx⟩ : ∃ mx : Int, (if sf < 0 then (0 : Int) else sf) = mx := ⟨_, rfl⟩
    have hmx1 : max sf 0 = mx := by rw [← hmx]; split <;> omega
    rw [hmx1] at l3
    have hst : ((pa.steps : Int) == mx) = true := by simpa using l3
    have hge : (pa.steps : Int) ≤ (pb.steps : Int) := by omega
    have hd : Below V.heap.size V V.drew := (Below.refl _ _).drew
    have HBG := Lib.hid (begins_any (c := d) (c' := c) V.drew hi10 hi9)
    rw [l1] at HBG
    have HSH := Lib.hid (fun (V2 : World) => (show Calls Tryd.prog 10 #[.int .i64 f] V2 fun e w' => e = .returned (.int .i64 sf) ∧ V2 = w' from hsf ▸ short_any f V2))
    have HK := Lib.hid (fun (V2 : World) (h : Below V.heap.size V V2) => knows_any V2 (hr.below h))
    have HB := Lib.hid hb
    have HC := Lib.hid (fun (V2 : World) (h : Below V.heap.size V V2) => (show V2.cell? ⟨X9, 2, none⟩ = some (.slice A pa.out.length c) ∧ V2.cell? ⟨X9, 3, none⟩ = some (.int .i64 pa.steps) ∧ V2.cell? ⟨X10, 2, none⟩ = some (.slice B pb.out.length d) ∧ V2.cell? ⟨X10, 3, none⟩ = some (.int .i64 pb.steps) from ⟨cell_behind h a2, cell_behind h a3, cell_behind h b2, cell_behind h b3⟩))
    clear hlaw l1 l2 l3 hi9 hi10 hb hr h9 h10 hmx1 hd
    obtain ⟨Q, hQ⟩ : ∃ Q, bodyPost Tryd.prog Tryd.f4 (BoolBelow true W) = Q := ⟨_, rfl⟩
    have HQ := Lib.hid hQ
    have hQp : ∀ ch a b V, Q (.panic ch) a V → Q (.panic ch) b V → True := fun _ _ _ _ _ _ => trivial
    clear hQp
    rw [hQ]
    clear hQ
    unfold moreTail Tryd.f4
    dsimp only
    go_wp2_with fail
    rw [← HQ.out]
    go_region_held2 (fun V2 => V2.cell? ⟨X9, 2, none⟩ = some (.slice A pa.out.length c) ∧ V2.cell? ⟨X9, 3, none⟩ = some (.int .i64 pa.steps) ∧ V2.cell? ⟨X10, 2, none⟩ = some (.slice B pb.out.length d) ∧ V2.cell? ⟨X10, 3, none⟩ = some (.int .i64 pb.steps))
      (first | exact HC.out _ (Below.refl _ _).drew | exact HC.out _ (below_drewN (Below.refl _ _) _) | exact HC.out _ ((below_drewN (Below.refl _ _) _).trans (hv4.mono (Nat.le_refl _))))
      ((first
        | (go_at_call 14; refine HBG.out.mono ?_; rintro e V2 ⟨rfl, n1, rfl⟩)
        | (go_at_call 10; refine (HSH.out _).mono ?_; rintro en w' ⟨rfl, rfl⟩)
        | (go_at_call 8; refine (HK.out _ (by first | exact below_drewN (Below.refl _ _) _ | exact (Below.refl _ _).drew)).mono ?_; rintro e V4 ⟨rfl, hv4⟩)))
    all_goals
      go_wp2_with fail
      (try rw [← HQ.out])
      go_ret
      refine ⟨rfl, (HB.out.trans ((below_drewN (Below.refl _ V) _).mono HB.out.size)).trans (hv4.mono ?_)⟩
      exact HB.out.size
  · obtain ⟨l1, l2⟩ := hlaw.1 hk
    have hk' : (pa.kind == 3) = false := by simpa using hk
    have hk2 : (pa.kind != 3) = true := by simpa using hk
    have HS := Lib.hid (same_any (v := .agg #[.int .i64 pa.kind, .int .i64 pa.n, .slice A pa.out.length c, .int .i64 pa.steps]) (u := .agg #[.int .i64 pb.kind, .int .i64 pb.n, .slice B pb.out.length d, .int .i64 pb.steps]) V ⟨A, c, rfl, hi9⟩ ⟨B, d, rfl, hi10⟩)
    rw [l1] at HS
    have hst : ((pa.steps : Int) == (pb.steps : Int)) = true := by simp [l2]
    have HK := Lib.hid (fun (V2 : World) (h : Below V.heap.size V V2) => knows_any V2 (hr.below h))
    have HB := Lib.hid hb
    clear hlaw l1 l2 hi9 hi10 hb hr h9 h10
    have HC := Lib.hid (fun (V2 : World) (h : Below V.heap.size V V2) => (show V2.cell? ⟨X9, 3, none⟩ = some (.int .i64 pa.steps) ∧ V2.cell? ⟨X10, 3, none⟩ = some (.int .i64 pb.steps) from ⟨cell_behind h a3, cell_behind h b3⟩))
    obtain ⟨Q, hQ⟩ : ∃ Q, bodyPost Tryd.prog Tryd.f4 (BoolBelow true W) = Q := ⟨_, rfl⟩
    have HQ := Lib.hid hQ
    rw [hQ]
    clear hQ
    unfold moreTail Tryd.f4
    dsimp only
    go_wp2_with (first
      | (go_at_call 12; refine HS.out.mono ?_; rintro e V2 ⟨rfl, hv2⟩; obtain ⟨c3, d3⟩ := HC.out _ hv2)
      | (go_at_call 8; refine (HK.out _ hv2).mono ?_; rintro e V4 ⟨rfl, hv4⟩))
    rw [← HQ.out]
    go_ret
    have h1 := HB.out.trans (hv2.mono HB.out.size)
    exact ⟨rfl, h1.trans (hv4.mono h1.size)⟩
end Go.Proofs.YtnolhcdfknjncaaDoor
