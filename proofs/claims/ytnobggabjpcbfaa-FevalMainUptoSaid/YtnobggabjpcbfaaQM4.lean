/-
  8 texts of this seat in one: D1 D2 D3 D4 D5 D6 D7 D8.
-/
import Derived.Test.YtnobggabjpcbfaaQM3
import Derived.Test.YtnobggabjpcbfaaQM2
import Derived.BigRegion
import Derived.StillTailTactics
/-
  clos: within, variable, atom, has, bare, the closures of number and body.
-/
set_option linter.unusedVariables false
set_option linter.unusedSimpArgs false
namespace Go.Proofs.Ytnobggabjpcbfaa
open Go.RowKit

theorem within_any (n a b : Int) (w : World) :
    Calls Try.prog 43 #[.int .i64 n, .int .i64 a, .int .i64 b] w fun e w' => e = .returned (.bool (inB n a b)) ∧ w = w' := by
  by_cases h : a ≤ n
  all_goals
    go_enter Try.func43, Try.ntmps43
    go_wp2
    go_ret
    exact ⟨ret_bool (by simp [inB]; omega), rfl⟩
theorem within_q (n a b : Int) (w : World) :
    Calls Try.prog 43 #[.int .i64 n, .int .i64 a, .int .i64 b] w fun e w' => e = .returned (.bool (inB n a b)) ∧ w' = w := (within_any n a b w).mono fun _ _ h => ⟨h.1, h.2.symm⟩
theorem variable_any (n : Int) (w : World) :
    Calls Try.prog 30 #[.int .i64 n] w fun e w' => e = .returned (.bool (varB n)) ∧ w = w' := by
  go_enter Try.func30, Try.ntmps30
  go_wp2_with (go_at_call 43; refine (within_any _ _ _ _).mono ?_; rintro e w' ⟨rfl, rfl⟩)
  go_ret
  exact ⟨rfl, rfl⟩
theorem catom_any (v : Bool) (n : Int) (w : World) :
    Calls Try.prog 49 #[.agg #[.bool v, .int .i64 n]] w fun e w' => e = .returned (.bool (atomB ⟨v, n⟩)) ∧ Below w.heap.size w w' := by
  have hb := below_alloc (Below.refl w.heap.size w) (.cells #[.bool v, .int .i64 n] 25)
  cases v
  all_goals
    go_enter Try.func49, Try.ntmps49
    go_wp2_with (go_at_call 43; refine (within_any _ _ _ _).mono ?_; rintro e w' ⟨rfl, rfl⟩)
    go_ret
    exact ⟨ret_bool (by simp [atomB]), hb⟩
theorem has_any (k : Int) (w : World) :
    Calls Try.prog 69 #[.int .i64 k] w fun e w' => e = .returned (.tuple #[.bool (hasN k), .bool (hasA k), .bool (hasK k), .bool (hasB k), .bool (hasA k)]) ∧ w = w' := by
  by_cases h : k = 1 ∨ k = 6 ∨ k = 2 ∨ k = 3 ∨ k = 4 ∨ k = 9 ∨ k = 8 ∨ k = 10
  · rcases h with rfl | rfl | rfl | rfl | rfl | rfl | rfl | rfl
    all_goals
      go_enter Try.func69, Try.ntmps69
      go_wp2
      refine bodyPost_ret (v := .tuple #[.bool _, .bool _, .bool _, .bool _, .bool _]) (by simp [results, Try.results69, go_sem]; decide) rfl ⟨rfl, rfl⟩
  · have e1 : (k == 1) = false := by simp; omega
    have e2 : (k == 2) = false := by simp; omega
    have e3 : (k == 3) = false := by simp; omega
    have e4 : (k == 4) = false := by simp; omega
    have e6 : (k == 6) = false := by simp; omega
    have e8 : (k == 8) = false := by simp; omega
    have e9 : (k == 9) = false := by simp; omega
    have e10 : (k == 10) = false := by simp; omega
    go_enter Try.func69, Try.ntmps69
    go_wp2
    refine bodyPost_ret (v := .tuple #[.bool false, .bool false, .bool false, .bool false, .bool false]) (by simp [results, Try.results69, go_sem]) rfl ⟨?_, rfl⟩
    simp [hasN, hasA, hasK, hasB, e1, e2, e3, e4, e6, e8, e9, e10]
theorem has_combo (k : Int) : hasA k = false ∨ (hasA k = true ∧ ((hasN k = false ∧ hasK k = false ∧ hasB k = false) ∨ (hasN k = true ∧ hasK k = false ∧ hasB k = false) ∨ (hasN k = false ∧ hasK k = true ∧ hasB k = true) ∨ (hasN k = false ∧ hasK k = true ∧ hasB k = false))) := by
  by_cases h : k = 1 ∨ k = 6 ∨ k = 2 ∨ k = 3 ∨ k = 4 ∨ k = 9 ∨ k = 8 ∨ k = 10
  · rcases h with rfl | rfl | rfl | rfl | rfl | rfl | rfl | rfl <;> decide
  · left
    simp [hasA]; omega
set_option maxHeartbeats 1000000 in
theorem bare_any (k n : Int) (Aa Ak Al : Option Addr) (na ca nk ck nb cb : Nat) (w : World) :
    Calls Try.prog 58 #[.agg #[.int .i64 k, .int .i64 n, .slice Aa na ca, .slice Ak nk ck, .slice Al nb cb]] w fun e w' => e = .returned (.bool (bareB k n na nk nb)) ∧ Below w.heap.size w w' := by
  obtain ⟨W0, hW0⟩ : ∃ W0, w.alloc (.cells #[.int .i64 k, .int .i64 n, .slice Aa na ca, .slice Ak nk ck, .slice Al nb cb] 52) = W0 := ⟨_, rfl⟩
  have hb0 : Below w.heap.size w W0 := by rw [← hW0]; exact (Below.refl _ _).alloc (Nat.le_refl _) _
  have c0 : W0.cell? ⟨w.heap.size, 0, none⟩ = some (.int .i64 k) := by rw [← hW0, World.cell?_alloc_at _ _ _ _ rfl]; rfl
  have c1 : W0.cell? ⟨w.heap.size, 1, none⟩ = some (.int .i64 n) := by rw [← hW0, World.cell?_alloc_at _ _ _ _ rfl]; rfl
  have c2 : W0.cell? ⟨w.heap.size, 2, none⟩ = some (.slice Aa na ca) := by rw [← hW0, World.cell?_alloc_at _ _ _ _ rfl]; rfl
  have c3 : W0.cell? ⟨w.heap.size, 3, none⟩ = some (.slice Ak nk ck) := by rw [← hW0, World.cell?_alloc_at _ _ _ _ rfl]; rfl
  have c4 : W0.cell? ⟨w.heap.size, 4, none⟩ = some (.slice Al nb cb) := by rw [← hW0, World.cell?_alloc_at _ _ _ _ rfl]; rfl
  have HB := Lib.hid hb0
  clear hb0
  have x2 : ((nk : Int) == 0) = (nk == 0) := by rw [Bool.eq_iff_iff]; simp
  have x3 : ((nb : Int) == 0) = (nb == 0) := by rw [Bool.eq_iff_iff]; simp
  obtain ⟨out, hout⟩ : ∃ o, bareB k n na nk nb = o := ⟨_, rfl⟩
  rw [hout]
  have HO := Lib.hid (show out = (hasA k && (hasN k || n == 0) && (hasA k || na == 0) && (hasK k || (nk : Int) == 0) && (hasB k || (nb : Int) == 0)) from by rw [x2, x3]; exact hout.symm)
  clear hout x2 x3
  have HH := Lib.hid (has_any k W0)
  have hc := has_combo k
  generalize hasA k = b1 at *
  generalize hasN k = b2 at *
  generalize hasK k = b3 at *
  generalize hasB k = b4 at *
  rcases hc with rfl | ⟨rfl, ⟨rfl, rfl, rfl⟩ | ⟨rfl, rfl, rfl⟩ | ⟨rfl, rfl, rfl⟩ | ⟨rfl, rfl, rfl⟩⟩
  · go_enter Try.func58, Try.ntmps58
    go_wp2_with (go_at_call 69; refine HH.out.mono ?_; rintro en w' ⟨rfl, rfl⟩)
    go_ret
    exact ⟨ret_bool (HO.out.symm ▸ (by simp [])), HB.out⟩
  · cases e1 : (n == 0)
    · go_enter Try.func58, Try.ntmps58
      go_wp2_with (go_at_call 69; refine HH.out.mono ?_; rintro en w' ⟨rfl, rfl⟩)
      go_ret
      exact ⟨ret_bool (HO.out.symm ▸ (by simp [e1])), HB.out⟩
    · cases e2 : ((nk : Int) == 0)
      · go_enter Try.func58, Try.ntmps58
        go_wp2_with (go_at_call 69; refine HH.out.mono ?_; rintro en w' ⟨rfl, rfl⟩)
        go_ret
        exact ⟨ret_bool (HO.out.symm ▸ (by simp [e1, e2])), HB.out⟩
      · cases e3 : ((nb : Int) == 0)
        · go_enter Try.func58, Try.ntmps58
          go_wp2_with (go_at_call 69; refine HH.out.mono ?_; rintro en w' ⟨rfl, rfl⟩)
          go_ret
          exact ⟨ret_bool (HO.out.symm ▸ (by simp [e1, e2, e3])), HB.out⟩
        · go_enter Try.func58, Try.ntmps58
          go_wp2_with (go_at_call 69; refine HH.out.mono ?_; rintro en w' ⟨rfl, rfl⟩)
          go_ret
          exact ⟨ret_bool (HO.out.symm ▸ (by simp [e1, e2, e3])), HB.out⟩
  · cases e2 : ((nk : Int) == 0)
    · go_enter Try.func58, Try.ntmps58
      go_wp2_with (go_at_call 69; refine HH.out.mono ?_; rintro en w' ⟨rfl, rfl⟩)
      go_ret
      exact ⟨ret_bool (HO.out.symm ▸ (by simp [e2])), HB.out⟩
    · cases e3 : ((nb : Int) == 0)
      · go_enter Try.func58, Try.ntmps58
        go_wp2_with (go_at_call 69; refine HH.out.mono ?_; rintro en w' ⟨rfl, rfl⟩)
        go_ret
        exact ⟨ret_bool (HO.out.symm ▸ (by simp [e2, e3])), HB.out⟩
      · go_enter Try.func58, Try.ntmps58
        go_wp2_with (go_at_call 69; refine HH.out.mono ?_; rintro en w' ⟨rfl, rfl⟩)
        go_ret
        exact ⟨ret_bool (HO.out.symm ▸ (by simp [e2, e3])), HB.out⟩
  · cases e1 : (n == 0)
    · go_enter Try.func58, Try.ntmps58
      go_wp2_with (go_at_call 69; refine HH.out.mono ?_; rintro en w' ⟨rfl, rfl⟩)
      go_ret
      exact ⟨ret_bool (HO.out.symm ▸ (by simp [e1])), HB.out⟩
    · go_enter Try.func58, Try.ntmps58
      go_wp2_with (go_at_call 69; refine HH.out.mono ?_; rintro en w' ⟨rfl, rfl⟩)
      go_ret
      exact ⟨ret_bool (HO.out.symm ▸ (by simp [e1])), HB.out⟩
  · cases e1 : (n == 0)
    · go_enter Try.func58, Try.ntmps58
      go_wp2_with (go_at_call 69; refine HH.out.mono ?_; rintro en w' ⟨rfl, rfl⟩)
      go_ret
      exact ⟨ret_bool (HO.out.symm ▸ (by simp [e1])), HB.out⟩
    · cases e3 : ((nb : Int) == 0)
      · go_enter Try.func58, Try.ntmps58
        go_wp2_with (go_at_call 69; refine HH.out.mono ?_; rintro en w' ⟨rfl, rfl⟩)
        go_ret
        exact ⟨ret_bool (HO.out.symm ▸ (by simp [e1, e3])), HB.out⟩
      · go_enter Try.func58, Try.ntmps58
        go_wp2_with (go_at_call 69; refine HH.out.mono ?_; rintro en w' ⟨rfl, rfl⟩)
        go_ret
        exact ⟨ret_bool (HO.out.symm ▸ (by simp [e1, e3])), HB.out⟩
theorem number1_any (v : Bool) (n : Int) (w : World) :
    Calls Try.prog 70 #[.agg #[.bool v, .int .i64 n]] w fun e w' => e = .returned (.bool (!atomB ⟨v, n⟩)) ∧ Below w.heap.size w w' := by
  obtain ⟨W0, hW0⟩ : ∃ W0, w.alloc (.cells #[.bool v, .int .i64 n] 25) = W0 := ⟨_, rfl⟩
  have hb0 : Below w.heap.size w W0 := by rw [← hW0]; exact (Below.refl _ _).alloc (Nat.le_refl _) _
  have c0 : W0.cell? ⟨w.heap.size, 0, none⟩ = some (.bool v) := by rw [← hW0, World.cell?_alloc_at _ _ _ _ rfl]; rfl
  have c1 : W0.cell? ⟨w.heap.size, 1, none⟩ = some (.int .i64 n) := by rw [← hW0, World.cell?_alloc_at _ _ _ _ rfl]; rfl
  have HB := Lib.hid hb0
  have HC := Lib.hid (catom_any v n W0)
  clear hb0
  go_enter Try.func70, Try.ntmps70
  go_wp2_with fail
  refine HC.out.mono ?_
  rintro e w' ⟨rfl, hb⟩
  go_wp2_with fail
  go_ret
  exact ⟨rfl, HB.out.trans (hb.mono HB.out.size)⟩
end Go.Proofs.Ytnobggabjpcbfaa

/-
  clos: group, functions, rising.
-/
set_option linter.unusedVariables false
set_option linter.unusedSimpArgs false
namespace Go.Proofs.Ytnobggabjpcbfaa
open Go.RowKit

theorem infoI : (Try.prog.info? 3).map (fun i => (i.zero, i.size, i.bytes)) = some (some (.int .i64 0), 1, 8) := by kernel_rfl
theorem undI : Try.prog.underlying 30 = some (.slice 3) := by kernel_rfl
theorem own_intsD {w : World} {base n : Nat} {e : TypeId} {v : Value} {xs : List Int} (h : w.ownsRow base e 1 v n (xs.map (Value.int .i64))) (hb : xs.length * 8 ≤ 140737488351232) :
    ∃ A c, v = .slice A xs.length c ∧ IntsIn w.heap.size w A xs ∧ xs.length ≤ c := by
  have hl : xs.length = n := by have := h.1; simpa using this
  rcases h.2 with ⟨rfl, h0⟩ | ⟨g, cap, cur, rfl, _, hg, hn, _⟩
  · refine ⟨none, 0, by rw [hl, h0], ⟨hb, .inl (List.length_eq_zero_iff.1 (by omega))⟩, by omega⟩
  · refine ⟨some ⟨g, 0, none⟩, cap, by rw [hl], ⟨hb, .inr ⟨g, 0, rfl, (h.lt g rfl).2, fun j hj => ?_⟩⟩, by omega⟩
    have := World.ownsRow.cells h (g := g) rfl j (.int .i64 (nth xs j)) (by simp [nth_eq _ hj, hj])
    have ha : (⟨g, 0, none⟩ : Addr).add j = ⟨g, 0 + j, none⟩ := by unfold Addr.add; split <;> simp_all
    rw [ha] at this
    exact this
/-- a right side's copy in memory -/
structure RhsAt (w W0 : World) (b : Nat) (k n : Int) (Aa Ak Al : Option Addr) (na ca nk ck nb cb : Nat) : Prop where
  c0 : W0.cell? ⟨b, 0, none⟩ = some (.int .i64 k)
  c1 : W0.cell? ⟨b, 1, none⟩ = some (.int .i64 n)
  c2 : W0.cell? ⟨b, 2, none⟩ = some (.slice Aa na ca)
  c3 : W0.cell? ⟨b, 3, none⟩ = some (.slice Ak nk ck)
  c4 : W0.cell? ⟨b, 4, none⟩ = some (.slice Al nb cb)
  lt : b < W0.heap.size
theorem RhsAt.new (w : World) (k n : Int) (Aa Ak Al : Option Addr) (na ca nk ck nb cb : Nat) : RhsAt w (w.alloc (.cells #[.int .i64 k, .int .i64 n, .slice Aa na ca, .slice Ak nk ck, .slice Al nb cb] 52)) w.heap.size k n Aa Ak Al na ca nk ck nb cb :=
  ⟨by rw [World.cell?_alloc_at _ _ _ _ rfl]; rfl, by rw [World.cell?_alloc_at _ _ _ _ rfl]; rfl, by rw [World.cell?_alloc_at _ _ _ _ rfl]; rfl, by rw [World.cell?_alloc_at _ _ _ _ rfl]; rfl, by rw [World.cell?_alloc_at _ _ _ _ rfl]; rfl, by simp⟩
theorem RhsAt.behind {w W0 V : World} {b : Nat} {k n : Int} {Aa Ak Al : Option Addr} {na ca nk ck nb cb : Nat} (h : RhsAt w W0 b k n Aa Ak Al na ca nk ck nb cb) (hV : Below W0.heap.size W0 V) : RhsAt w V b k n Aa Ak Al na ca nk ck nb cb :=
  ⟨(hV.cell (p := ⟨_, _, none⟩) h.lt).trans h.c0, (hV.cell (p := ⟨_, _, none⟩) h.lt).trans h.c1, (hV.cell (p := ⟨_, _, none⟩) h.lt).trans h.c2, (hV.cell (p := ⟨_, _, none⟩) h.lt).trans h.c3, (hV.cell (p := ⟨_, _, none⟩) h.lt).trans h.c4, Nat.lt_of_lt_of_le h.lt hV.size⟩

set_option maxRecDepth 100000 in
set_option maxHeartbeats 1000000 in
theorem cgroup_any (k n : Int) (Aa Ak Al : Option Addr) (na ca ck nb cb : Nat) (ks : List Int) (w : World) (hk : IntsIn w.heap.size w Ak ks) (hkc : ks.length ≤ ck) :
    Calls Try.prog 45 #[.agg #[.int .i64 k, .int .i64 n, .slice Aa na ca, .slice Ak ks.length ck, .slice Al nb cb]] w fun e w' => ∃ A c, e = .returned (.slice A (groupV ks).length c) ∧ IntsIn w'.heap.size w' A (groupV ks) ∧ (groupV ks).length ≤ c ∧ Below w.heap.size w w' := by
  obtain ⟨W0, hW0⟩ : ∃ W0, w.alloc (.cells #[.int .i64 k, .int .i64 n, .slice Aa na ca, .slice Ak ks.length ck, .slice Al nb cb] 52) = W0 := ⟨_, rfl⟩
  have hb0 : Below w.heap.size w W0 := by rw [← hW0]; exact (Below.refl _ _).alloc (Nat.le_refl _) _
  have hR : RhsAt w W0 w.heap.size k n Aa Ak Al na ca ks.length ck nb cb := by rw [← hW0]; exact RhsAt.new _ _ _ _ _ _ _ _ _ _ _ _
  have HR := Lib.hid (fun (V : World) (hV : Below W0.heap.size W0 V) => (hR.behind hV).c3)
  have HK := Lib.hid (fun (V : World) (hV : Below W0.heap.size W0 V) (j : Nat) (hj : j < ks.length) => (show ∃ b o, Ak = some ⟨b, o, none⟩ ∧ V.cell? ⟨b, o + j, none⟩ = some (.int .i64 (nth ks j)) from by
    obtain ⟨b, o, h1, h2, h3⟩ := hk.at_ (by omega)
    exact ⟨b, o, h1, ((hb0.trans (hV.mono hb0.size)).cell (p := ⟨_, _, none⟩) h2).trans (h3 j hj)⟩))
  obtain ⟨i0, hinf, hz0, hz1, hz2⟩ := info_parts infoI
  have hl := groupV_len ks
  have HG := Lib.hid (groupV_get ks)
  have h64 := hk.1
  have HB := Lib.hid hb0
  clear hk hR hb0
  obtain ⟨L, hL⟩ : ∃ L, ks.length = L := ⟨_, rfl⟩
  rw [hL] at hW0 hkc HR HK hl HG h64 ⊢
  clear hL
  have hG8 : (groupV ks).length * 8 ≤ 140737488351232 := by omega
  have HG8 := Lib.hid hG8
  obtain ⟨G, hG⟩ : ∃ G, groupV ks = G := ⟨_, rfl⟩
  rw [hG] at hl HG HG8 ⊢
  have HL := Lib.hid hl
  clear hG hG8
  obtain ⟨M, hM⟩ : ∃ M, G.length = M := ⟨_, rfl⟩
  have HM := Lib.hid hM
  rw [hM] at hl
  clear hM
  go_enter Try.func45, Try.ntmps45
  go_wp2_with fail
  go_loopw [3, 4] (fun rv iv wr => ∃ j : Nat, j ≤ M ∧ iv = .int .i64 (3 * (j : Int)) ∧ Hid (wr.ownsRow W0.heap.size 3 1 rv j ((G.take j).map (Value.int .i64))) ∧ Hid (Below W0.heap.size W0 wr)) (fun _ iv _ => 3 * M + 3 - (intOf iv).toNat)
  case atStart => exact ⟨0, by omega, rfl, Lib.hid ⟨by simp, .inl ⟨rfl, rfl⟩⟩, Lib.hid (Below.refl _ _)⟩
  case round =>
    obtain ⟨j, hj, rfl, HO, HW⟩ := hrel
    have q3 := HR.out wr HW.out
    by_cases hlt : j < M
    · have hj1 : 3 * j < L := by omega
      obtain ⟨b, o, rfl, qk⟩ := HK.out wr HW.out (3 * j) hj1
      have e1 : (0 : Int) ≤ 3 * (j : Int) := by omega
      have e2 : 3 * (j : Int) < (L : Int) := by omega
      have e3 : (3 * (j : Int)).toNat = 3 * j := by omega
      have e4 : IntKind.i64.wrap (3 * (j : Int) + 3) = 3 * (j : Int) + 3 := by rw [IntKind.wrap_i64]; omega
      have e5 : (L : Int) ≤ (ck : Int) := by omega
      have hml : j + 1 ≤ maxLen := by unfold maxLen; omega
      have HGJ := Lib.hid (HG.out j hj1)
      have hrow := Lib.hid (show (wr.alloc (.cells #[.int .i64 (nth ks (3 * j))] 3)).ownsRow W0.heap.size 3 1 u3 j ((G.take j).map (Value.int .i64)) from HO.out.alloc _)
      have hws := HW.out.size
      go_wp2_with (at_builtin; refine wpList_append_own_at _ rfl _ _ 30 rfl W0.heap.size 3 i0 (.int .i64 0) 1 8 undI hinf hz0 hz1 hz2 rfl (by decide) _ _ _ rfl hrow.out ⟨wr.heap.size, 0, none⟩ 1 1 [.int .i64 (nth ks (3 * j))] rfl rfl (cell_one_new _ _ _) (by simp [Value.oneCell']) hml (by omega) (by rw [World.size_alloc]; omega) ?_; intro v' w1 hown' hgrow _ hat)
      have hgrow' := hgrow
      change World.grownBy _ w1 u3.ownBlock at hgrow'
      have hb1 : Below W0.heap.size W0 (wr.alloc (.cells #[.int .i64 (nth ks (3 * j))] 3)) := HW.out.alloc hws _
      have HW2 := Lib.hid (hb1.grown hgrow' hb1.size (fun q hq => (HO.out.lt q hq).1))
      have HO2 := Lib.hid (show w1.ownsRow W0.heap.size 3 1 v' (j + 1) ((G.take (j + 1)).map (Value.int .i64)) from by
        have he : G.take (j + 1) = G.take j ++ [nth ks (3 * j)] := by rw [List.take_add_one, HGJ.out]; rfl
        rw [he, List.map_append]
        exact hown')
      clear hgrow hgrow' hat hown' hb1
      go_roundw
      case rel => exact ⟨j + 1, by omega, by go_num, HO2, HW2⟩
      case measure => simp [intOf]; omega
    · have hjM : j = M := by omega
      have e2 : ¬ 3 * (j : Int) < (L : Int) := by omega
      have ho := HO.out
      rw [List.take_of_length_le (by rw [HM.out]; omega)] at ho
      obtain ⟨A, c, rfl, h1, h2⟩ := own_intsD ho HG8.out
      have HE := Lib.hid (show ∃ A' c', Ending.returned (.slice A G.length c) = .returned (.slice A' G.length c') ∧ IntsIn wr.heap.size wr A' G ∧ G.length ≤ c' ∧ Below w.heap.size w wr from ⟨A, c, rfl, h1, h2, HB.out.trans (HW.out.mono HB.out.size)⟩)
      clear ho h1 h2
      go_wp2_with fail
      go_ret
      exact HE.out

set_option maxRecDepth 100000 in
set_option maxHeartbeats 1000000 in
theorem functions_any {cb_ mb nf : Nat} (hnf : nf ≤ 1000000) (k n : Int) (Aa Ak Al : Option Addr) (na ca ck nb cb : Nat) (ks : List Int) (w : World) (hc : w.heap[cb_]? = some (.cells #[.int .i64 (nf : Int), .map (some mb)] 71 (0, 0))) (hk : IntsIn w.heap.size w Ak ks) (hkc : ks.length ≤ ck) :
    Calls Try.prog 61 #[.pointer (some ⟨cb_, 0, none⟩), .agg #[.int .i64 k, .int .i64 n, .slice Aa na ca, .slice Ak ks.length ck, .slice Al nb cb]] w fun e w' => e = .returned (.bool (funsB nf ks)) ∧ Below w.heap.size w w' := by
  obtain ⟨W0, hW0⟩ : ∃ W0, w.alloc (.cells #[.int .i64 k, .int .i64 n, .slice Aa na ca, .slice Ak ks.length ck, .slice Al nb cb] 52) = W0 := ⟨_, rfl⟩
  have hb0 : Below w.heap.size w W0 := by rw [← hW0]; exact (Below.refl _ _).alloc (Nat.le_refl _) _
  have hR : RhsAt w W0 w.heap.size k n Aa Ak Al na ca ks.length ck nb cb := by rw [← hW0]; exact RhsAt.new _ _ _ _ _ _ _ _ _ _ _ _
  have c0 : w.cell? ⟨cb_, 0, none⟩ = some (.int .i64 (nf : Int)) := by simp [World.cell?, hc]
  have HR := Lib.hid (fun (V : World) (hV : Below W0.heap.size W0 V) => (show V.cell? ⟨w.heap.size, 3, none⟩ = some (.slice Ak ks.length ck) ∧ V.cell? ⟨cb_, 0, none⟩ = some (.int .i64 (nf : Int)) from ⟨(hR.behind hV).c3, cell_behind (hb0.trans (hV.mono hb0.size)) c0⟩))
  have HK := Lib.hid (fun (V : World) (hV : Below W0.heap.size W0 V) (j : Nat) (hj : j < ks.length) => (show ∃ b o, Ak = some ⟨b, o, none⟩ ∧ V.cell? ⟨b, o + j, none⟩ = some (.int .i64 (nth ks j)) from by
    obtain ⟨b, o, h1, h2, h3⟩ := hk.at_ (by omega)
    exact ⟨b, o, h1, ((hb0.trans (hV.mono hb0.size)).cell (p := ⟨_, _, none⟩) h2).trans (h3 j hj)⟩))
  have hl := groupF_len ks
  have HG := Lib.hid (groupF_get' ks)
  have h64 := hk.1
  have HB := Lib.hid hb0
  clear hk hR hb0 hc c0
  obtain ⟨out, hout⟩ : ∃ o, funsB nf ks = o := ⟨_, rfl⟩
  rw [hout]
  have HO := Lib.hid hout
  clear hout
  obtain ⟨L, hL⟩ : ∃ L, ks.length = L := ⟨_, rfl⟩
  rw [hL] at hW0 hkc HR HK hl HG h64 ⊢
  clear hL
  have HL := Lib.hid hl
  have hw1 : IntKind.i64.wrap ((nf : Int) - 1) = (nf : Int) - 1 := by rw [IntKind.wrap_i64]; omega
  go_enter Try.func61, Try.ntmps61
  go_wp2_with fail
  go_loopw [5] (fun iv wr => ∃ j : Nat, 3 * j ≤ L + 2 ∧ iv = .int .i64 (3 * (j : Int) + 1) ∧ Hid (((groupF ks).take j).all (fun f => inB f 0 ((nf : Int) - 1)) = true) ∧ Hid (Below W0.heap.size W0 wr)) (fun iv _ => 3 * L + 9 - (intOf iv).toNat)
  case atStart => exact ⟨0, by omega, rfl, Lib.hid (by simp), Lib.hid (Below.refl _ _)⟩
  case round =>
    obtain ⟨j, hj, rfl, HA, HW⟩ := hrel
    obtain ⟨q3, qc⟩ := HR.out wr HW.out
    by_cases hlt : 3 * j + 1 < L
    · obtain ⟨b, o, rfl, qk⟩ := HK.out wr HW.out (3 * j + 1) hlt
      have e1 : (0 : Int) ≤ 3 * (j : Int) + 1 := by omega
      have e2 : 3 * (j : Int) + 1 < (L : Int) := by omega
      have e3 : (3 * (j : Int) + 1).toNat = 3 * j + 1 := by omega
      have e4 : IntKind.i64.wrap (3 * (j : Int) + 1 + 3) = 3 * (j : Int) + 1 + 3 := by rw [IntKind.wrap_i64]; omega
      have e5 : (L : Int) ≤ (ck : Int) := by omega
      have HGJ := Lib.hid (HG.out j hlt)
      cases hin : inB (nth ks (3 * j + 1)) 0 ((nf : Int) - 1)
      · have HF := Lib.hid (show out = false from HO.out.symm.trans (all_false HGJ.out hin))
        go_wp2_with fail
        go_quiet ((go_at_call 43; exact Calls.quiet_of_same (within_q _ _ _ _)))
        go_wp2_with fail
        go_ret
        exact ⟨ret_bool HF.out.symm, HB.out.trans ((below_drewN HW.out _).mono HB.out.size)⟩
      · have HA2 := Lib.hid (all_take_succ HGJ.out HA.out hin)
        go_wp2_with fail
        go_quiet ((go_at_call 43; exact Calls.quiet_of_same (within_q _ _ _ _)))
        go_wp2_with fail
        go_roundw
        case rel => exact ⟨j + 1, by omega, by go_num, HA2, Lib.hid (below_drewN HW.out _)⟩
        case measure => simp [intOf]; omega
    · have e2 : ¬ 3 * (j : Int) + 1 < (L : Int) := by omega
      have HE := Lib.hid (show out = true from HO.out.symm.trans (by
        have := HA.out
        rwa [List.take_of_length_le (by rw [HL.out]; omega)] at this))
      go_wp2_with fail
      go_ret
      exact ⟨ret_bool HE.out.symm, HB.out.trans (HW.out.mono HB.out.size)⟩
end Go.Proofs.Ytnobggabjpcbfaa

/-
  clos: rising, count.
-/
set_option linter.unusedVariables false
set_option linter.unusedSimpArgs false
namespace Go.Proofs.Ytnobggabjpcbfaa
open Go.RowKit

set_option maxRecDepth 100000 in
set_option maxHeartbeats 1000000 in
theorem rising_any (Ak : Option Addr) (ck : Nat) (ks : List Int) (w : World) (hk : IntsIn w.heap.size w Ak ks) (hkc : ks.length ≤ ck) :
    Calls Try.prog 62 #[.slice Ak ks.length ck] w fun e w' => e = .returned (.bool (risingB ks)) ∧ w = w' := by
  have HK := Lib.hid (fun (j : Nat) (hj : j < ks.length) => (show ∃ b o, Ak = some ⟨b, o, none⟩ ∧ w.cell? ⟨b, o + j, none⟩ = some (.int .i64 (nth ks j)) ∧ (∀ i, i < ks.length → w.cell? ⟨b, o + i, none⟩ = some (.int .i64 (nth ks i))) from by
    obtain ⟨b, o, h1, h2, h3⟩ := hk.at_ (by omega)
    exact ⟨b, o, h1, h3 j hj, h3⟩))
  have h64 := hk.1
  clear hk
  obtain ⟨out, hout⟩ : ∃ o, risingB ks = o := ⟨_, rfl⟩
  rw [hout]
  have HO := Lib.hid hout
  clear hout
  obtain ⟨L, hL⟩ : ∃ L, ks.length = L := ⟨_, rfl⟩
  have HL := Lib.hid hL
  rw [hL] at hkc HK h64 ⊢
  clear hL
  go_enter Try.func62, Try.ntmps62
  go_wp2_with fail
  go_loopw [7] (fun iv wr => ∃ j : Nat, j ≤ L ∧ iv = .int .i64 (j : Int) ∧ w = wr ∧ Hid (∀ i, i < j → riseOk ks i = true)) (fun iv _ => L + 1 - (intOf iv).toNat)
  case atStart => exact ⟨0, by omega, rfl, rfl, Lib.hid (fun i hi => by omega)⟩
  case round =>
    obtain ⟨j, hj, rfl, rfl, HA⟩ := hrel
    by_cases hlt : j < L
    · obtain ⟨b, o, rfl, qk, hall⟩ := HK.out j hlt
      have HALL := Lib.hid hall
      clear hall
      have e1 : (0 : Int) ≤ (j : Int) := by omega
      have e2 : (j : Int) < (L : Int) := by omega
      have e4 : IntKind.i64.wrap ((j : Int) + 1) = (j : Int) + 1 := by rw [IntKind.wrap_i64]; omega
      have e5 : (L : Int) ≤ (ck : Int) := by omega
      cases hin : inB (nth ks j) (-1073741824) 1073741823
      · have HF := Lib.hid (show out = false from HO.out.symm.trans (risingB_false (i := j) (by rw [HL.out]; exact hlt) (by unfold riseOk; rw [hin]; rfl)))
        go_wp2_with (go_at_call 43; refine (within_any _ _ _ _).mono ?_; rintro en w' ⟨rfl, rfl⟩)
        go_ret
        exact ⟨ret_bool HF.out.symm, rfl⟩
      · by_cases h0 : j = 0
        · have HA2 := Lib.hid (show ∀ i, i < j + 1 → riseOk ks i = true from fun i hi => by
            have hi0 : i = 0 := by omega
            rw [h0] at hin
            rw [hi0]
            unfold riseOk; rw [hin]; rfl)
          have e6 : ¬ (0 : Int) < (j : Int) := by omega
          have H0 := Lib.hid h0
          clear h0
          go_wp2_with (go_at_call 43; refine (within_any _ _ _ _).mono ?_; rintro en w' ⟨rfl, rfl⟩)
          go_roundw
          case rel => exact ⟨j + 1, by omega, by go_num, (by first | rfl | trivial), HA2⟩
          case measure => simp [intOf]; omega
        · obtain ⟨q, rfl⟩ : ∃ q, j = q + 1 := ⟨j - 1, by omega⟩
          have qq := HALL.out q (by omega)
          have e6 : (0 : Int) < ((q + 1 : Nat) : Int) := by omega
          have e7 : IntKind.i64.wrap (((q + 1 : Nat) : Int) - 1) = (q : Int) := by rw [IntKind.wrap_i64]; omega
          have e8 : (0 : Int) ≤ (q : Int) := by omega
          have e9 : (q : Int) < (L : Int) := by omega
          by_cases hge : nth ks (q + 1) ≤ nth ks q
          · have HF := Lib.hid (show out = false from HO.out.symm.trans (risingB_false (i := q + 1) (by rw [HL.out]; exact hlt) (by
              unfold riseOk; rw [hin]; simp; omega)))
            obtain ⟨J, hJ⟩ : ∃ J : Int, ((q + 1 : Nat) : Int) = J := ⟨_, rfl⟩
            have hJn : J.toNat = q + 1 := by omega
            rw [hJ] at e1 e2 e4 e6 e7 ⊢
            have qk' : w.cell? ⟨b, o + J.toNat, none⟩ = some (.int .i64 (nth ks (q + 1))) := by rw [hJn]; exact qk
            clear hJ
            go_wp2_with (go_at_call 43; refine (within_any _ _ _ _).mono ?_; rintro en w' ⟨rfl, rfl⟩)
            go_ret
            exact ⟨ret_bool HF.out.symm, rfl⟩
          · have HA2 := Lib.hid (show ∀ i, i < q + 1 + 1 → riseOk ks i = true from fun i hi => by
              by_cases hij : i = q + 1
              · subst hij
                unfold riseOk; rw [hin]; simp; omega
              · exact HA.out i (by omega))
            obtain ⟨J, hJ⟩ : ∃ J : Int, ((q + 1 : Nat) : Int) = J := ⟨_, rfl⟩
            have hJn : J.toNat = q + 1 := by omega
            rw [hJ] at e1 e2 e4 e6 e7 ⊢
            have qk' : w.cell? ⟨b, o + J.toNat, none⟩ = some (.int .i64 (nth ks (q + 1))) := by rw [hJn]; exact qk
            have HJ := Lib.hid hJ
            clear hJ
            go_wp2_with (go_at_call 43; refine (within_any _ _ _ _).mono ?_; rintro en w' ⟨rfl, rfl⟩)
            go_roundw
            case rel => exact ⟨q + 1 + 1, by omega, by rw [← HJ.out]; go_num, (by first | rfl | trivial), HA2⟩
            case measure => have := HJ.out; simp [intOf]; omega
    · have e2 : ¬ (j : Int) < (L : Int) := by omega
      have HE := Lib.hid (show out = true from HO.out.symm.trans (risingB_true (fun i hi => HA.out i (by rw [HL.out] at hi; omega))))
      go_wp2_with fail
      go_ret
      exact ⟨ret_bool HE.out.symm, rfl⟩
end Go.Proofs.Ytnobggabjpcbfaa

/-
  clos: count.
-/
set_option linter.unusedVariables false
set_option linter.unusedSimpArgs false
namespace Go.Proofs.Ytnobggabjpcbfaa
open Go.RowKit

theorem nat_eq_bool (a b : Nat) : ((a : Int) == (b : Int)) = (a == b) := by rw [Bool.eq_iff_iff]; simp; omega
section
variable (x n : Int) (Aa Ak Al : Option Addr) (na ca ck nb cb : Nat) (ks : List Int) (w : World)
set_option maxRecDepth 100000 in
set_option maxHeartbeats 1000000 in
theorem count_app : Calls Try.prog 60 #[.agg #[.int .i64 x, .int .i64 6, .int .i64 n, .slice Aa na ca, .slice Ak ks.length ck, .slice Al nb cb]] w fun e w' => e = .returned (.bool (countB x 6 n na ks nb)) ∧ Below w.heap.size w w' := by
  obtain ⟨W0, hW0⟩ : ∃ W0, w.alloc (.cells #[.int .i64 x, .int .i64 6, .int .i64 n, .slice Aa na ca, .slice Ak ks.length ck, .slice Al nb cb] 54) = W0 := ⟨_, rfl⟩
  have hb0 : Below w.heap.size w W0 := by rw [← hW0]; exact (Below.refl _ _).alloc (Nat.le_refl _) _
  have hs0 : w.heap.size < W0.heap.size := by rw [← hW0]; simp
  obtain ⟨W1, hW1⟩ : ∃ W1, W0.alloc (.cells #[.int .i64 6, .int .i64 n, .slice Aa na ca, .slice Ak ks.length ck, .slice Al nb cb] 52) = W1 := ⟨_, rfl⟩
  have hb1 : Below W0.heap.size W0 W1 := by rw [← hW1]; exact (Below.refl _ _).alloc (Nat.le_refl _) _
  have d0 : W0.cell? ⟨w.heap.size, 0, none⟩ = some (.int .i64 x) := by rw [← hW0, World.cell?_alloc_at _ _ _ _ rfl]; rfl
  have d1 : W0.cell? ⟨w.heap.size, 1, none⟩ = some (.int .i64 6) := by rw [← hW0, World.cell?_alloc_at _ _ _ _ rfl]; rfl
  have d2 : W0.cell? ⟨w.heap.size, 2, none⟩ = some (.int .i64 n) := by rw [← hW0, World.cell?_alloc_at _ _ _ _ rfl]; rfl
  have d3 : W0.cell? ⟨w.heap.size, 3, none⟩ = some (.slice Aa na ca) := by rw [← hW0, World.cell?_alloc_at _ _ _ _ rfl]; rfl
  have d4 : W0.cell? ⟨w.heap.size, 4, none⟩ = some (.slice Ak ks.length ck) := by rw [← hW0, World.cell?_alloc_at _ _ _ _ rfl]; rfl
  have d5 : W0.cell? ⟨w.heap.size, 5, none⟩ = some (.slice Al nb cb) := by rw [← hW0, World.cell?_alloc_at _ _ _ _ rfl]; rfl
  have hR : RhsAt W0 W1 W0.heap.size 6 n Aa Ak Al na ca ks.length ck nb cb := by rw [← hW1]; exact RhsAt.new _ _ _ _ _ _ _ _ _ _ _ _
  obtain ⟨c0, c1, c2, c3, c4, cl⟩ := hR
  have g0 : W1.cell? ⟨w.heap.size, 0, none⟩ = some (.int .i64 x) := (hb1.cell (p := ⟨w.heap.size, 0, none⟩) hs0).trans d0
  have HB := Lib.hid (hb0.trans (hb1.mono hb0.size))
  clear hb0 hb1
  go_enter Try.func60, Try.ntmps60
  go_wp2_with (go_at_call 43; refine (within_any _ _ _ _).mono ?_; rintro en w' ⟨rfl, rfl⟩)
  go_ret
  exact ⟨ret_bool (by have := nat_eq_bool na 2; simpa [countB] using this), HB.out⟩
set_option maxRecDepth 100000 in
set_option maxHeartbeats 1000000 in
theorem count_block : Calls Try.prog 60 #[.agg #[.int .i64 x, .int .i64 3, .int .i64 n, .slice Aa na ca, .slice Ak ks.length ck, .slice Al nb cb]] w fun e w' => e = .returned (.bool (countB x 3 n na ks nb)) ∧ Below w.heap.size w w' := by
  obtain ⟨W0, hW0⟩ : ∃ W0, w.alloc (.cells #[.int .i64 x, .int .i64 3, .int .i64 n, .slice Aa na ca, .slice Ak ks.length ck, .slice Al nb cb] 54) = W0 := ⟨_, rfl⟩
  have hb0 : Below w.heap.size w W0 := by rw [← hW0]; exact (Below.refl _ _).alloc (Nat.le_refl _) _
  have hs0 : w.heap.size < W0.heap.size := by rw [← hW0]; simp
  obtain ⟨W1, hW1⟩ : ∃ W1, W0.alloc (.cells #[.int .i64 3, .int .i64 n, .slice Aa na ca, .slice Ak ks.length ck, .slice Al nb cb] 52) = W1 := ⟨_, rfl⟩
  have hb1 : Below W0.heap.size W0 W1 := by rw [← hW1]; exact (Below.refl _ _).alloc (Nat.le_refl _) _
  have d0 : W0.cell? ⟨w.heap.size, 0, none⟩ = some (.int .i64 x) := by rw [← hW0, World.cell?_alloc_at _ _ _ _ rfl]; rfl
  have d1 : W0.cell? ⟨w.heap.size, 1, none⟩ = some (.int .i64 3) := by rw [← hW0, World.cell?_alloc_at _ _ _ _ rfl]; rfl
  have d2 : W0.cell? ⟨w.heap.size, 2, none⟩ = some (.int .i64 n) := by rw [← hW0, World.cell?_alloc_at _ _ _ _ rfl]; rfl
  have d3 : W0.cell? ⟨w.heap.size, 3, none⟩ = some (.slice Aa na ca) := by rw [← hW0, World.cell?_alloc_at _ _ _ _ rfl]; rfl
  have d4 : W0.cell? ⟨w.heap.size, 4, none⟩ = some (.slice Ak ks.length ck) := by rw [← hW0, World.cell?_alloc_at _ _ _ _ rfl]; rfl
  have d5 : W0.cell? ⟨w.heap.size, 5, none⟩ = some (.slice Al nb cb) := by rw [← hW0, World.cell?_alloc_at _ _ _ _ rfl]; rfl
  have hR : RhsAt W0 W1 W0.heap.size 3 n Aa Ak Al na ca ks.length ck nb cb := by rw [← hW1]; exact RhsAt.new _ _ _ _ _ _ _ _ _ _ _ _
  obtain ⟨c0, c1, c2, c3, c4, cl⟩ := hR
  have g0 : W1.cell? ⟨w.heap.size, 0, none⟩ = some (.int .i64 x) := (hb1.cell (p := ⟨w.heap.size, 0, none⟩) hs0).trans d0
  have HB := Lib.hid (hb0.trans (hb1.mono hb0.size))
  clear hb0 hb1
  go_enter Try.func60, Try.ntmps60
  go_wp2_with (go_at_call 43; refine (within_any _ _ _ _).mono ?_; rintro en w' ⟨rfl, rfl⟩)
  go_ret
  exact ⟨ret_bool (by simp [countB]), HB.out⟩
set_option maxRecDepth 100000 in
set_option maxHeartbeats 1000000 in
theorem count_close : Calls Try.prog 60 #[.agg #[.int .i64 x, .int .i64 9, .int .i64 n, .slice Aa na ca, .slice Ak ks.length ck, .slice Al nb cb]] w fun e w' => e = .returned (.bool (countB x 9 n na ks nb)) ∧ Below w.heap.size w w' := by
  obtain ⟨W0, hW0⟩ : ∃ W0, w.alloc (.cells #[.int .i64 x, .int .i64 9, .int .i64 n, .slice Aa na ca, .slice Ak ks.length ck, .slice Al nb cb] 54) = W0 := ⟨_, rfl⟩
  have hb0 : Below w.heap.size w W0 := by rw [← hW0]; exact (Below.refl _ _).alloc (Nat.le_refl _) _
  have hs0 : w.heap.size < W0.heap.size := by rw [← hW0]; simp
  obtain ⟨W1, hW1⟩ : ∃ W1, W0.alloc (.cells #[.int .i64 9, .int .i64 n, .slice Aa na ca, .slice Ak ks.length ck, .slice Al nb cb] 52) = W1 := ⟨_, rfl⟩
  have hb1 : Below W0.heap.size W0 W1 := by rw [← hW1]; exact (Below.refl _ _).alloc (Nat.le_refl _) _
  have d0 : W0.cell? ⟨w.heap.size, 0, none⟩ = some (.int .i64 x) := by rw [← hW0, World.cell?_alloc_at _ _ _ _ rfl]; rfl
  have d1 : W0.cell? ⟨w.heap.size, 1, none⟩ = some (.int .i64 9) := by rw [← hW0, World.cell?_alloc_at _ _ _ _ rfl]; rfl
  have d2 : W0.cell? ⟨w.heap.size, 2, none⟩ = some (.int .i64 n) := by rw [← hW0, World.cell?_alloc_at _ _ _ _ rfl]; rfl
  have d3 : W0.cell? ⟨w.heap.size, 3, none⟩ = some (.slice Aa na ca) := by rw [← hW0, World.cell?_alloc_at _ _ _ _ rfl]; rfl
  have d4 : W0.cell? ⟨w.heap.size, 4, none⟩ = some (.slice Ak ks.length ck) := by rw [← hW0, World.cell?_alloc_at _ _ _ _ rfl]; rfl
  have d5 : W0.cell? ⟨w.heap.size, 5, none⟩ = some (.slice Al nb cb) := by rw [← hW0, World.cell?_alloc_at _ _ _ _ rfl]; rfl
  have hR : RhsAt W0 W1 W0.heap.size 9 n Aa Ak Al na ca ks.length ck nb cb := by rw [← hW1]; exact RhsAt.new _ _ _ _ _ _ _ _ _ _ _ _
  obtain ⟨c0, c1, c2, c3, c4, cl⟩ := hR
  have g0 : W1.cell? ⟨w.heap.size, 0, none⟩ = some (.int .i64 x) := (hb1.cell (p := ⟨w.heap.size, 0, none⟩) hs0).trans d0
  have HB := Lib.hid (hb0.trans (hb1.mono hb0.size))
  clear hb0 hb1
  go_enter Try.func60, Try.ntmps60
  go_wp2_with (go_at_call 43; refine (within_any _ _ _ _).mono ?_; rintro en w' ⟨rfl, rfl⟩)
  go_ret
  exact ⟨ret_bool (by simp [countB]), HB.out⟩
set_option maxRecDepth 100000 in
set_option maxHeartbeats 1000000 in
theorem count_prim : Calls Try.prog 60 #[.agg #[.int .i64 x, .int .i64 2, .int .i64 n, .slice Aa na ca, .slice Ak ks.length ck, .slice Al nb cb]] w fun e w' => e = .returned (.bool (countB x 2 n na ks nb)) ∧ Below w.heap.size w w' := by
  obtain ⟨W0, hW0⟩ : ∃ W0, w.alloc (.cells #[.int .i64 x, .int .i64 2, .int .i64 n, .slice Aa na ca, .slice Ak ks.length ck, .slice Al nb cb] 54) = W0 := ⟨_, rfl⟩
  have hb0 : Below w.heap.size w W0 := by rw [← hW0]; exact (Below.refl _ _).alloc (Nat.le_refl _) _
  have hs0 : w.heap.size < W0.heap.size := by rw [← hW0]; simp
  obtain ⟨W1, hW1⟩ : ∃ W1, W0.alloc (.cells #[.int .i64 2, .int .i64 n, .slice Aa na ca, .slice Ak ks.length ck, .slice Al nb cb] 52) = W1 := ⟨_, rfl⟩
  have hb1 : Below W0.heap.size W0 W1 := by rw [← hW1]; exact (Below.refl _ _).alloc (Nat.le_refl _) _
  have d0 : W0.cell? ⟨w.heap.size, 0, none⟩ = some (.int .i64 x) := by rw [← hW0, World.cell?_alloc_at _ _ _ _ rfl]; rfl
  have d1 : W0.cell? ⟨w.heap.size, 1, none⟩ = some (.int .i64 2) := by rw [← hW0, World.cell?_alloc_at _ _ _ _ rfl]; rfl
  have d2 : W0.cell? ⟨w.heap.size, 2, none⟩ = some (.int .i64 n) := by rw [← hW0, World.cell?_alloc_at _ _ _ _ rfl]; rfl
  have d3 : W0.cell? ⟨w.heap.size, 3, none⟩ = some (.slice Aa na ca) := by rw [← hW0, World.cell?_alloc_at _ _ _ _ rfl]; rfl
  have d4 : W0.cell? ⟨w.heap.size, 4, none⟩ = some (.slice Ak ks.length ck) := by rw [← hW0, World.cell?_alloc_at _ _ _ _ rfl]; rfl
  have d5 : W0.cell? ⟨w.heap.size, 5, none⟩ = some (.slice Al nb cb) := by rw [← hW0, World.cell?_alloc_at _ _ _ _ rfl]; rfl
  have hR : RhsAt W0 W1 W0.heap.size 2 n Aa Ak Al na ca ks.length ck nb cb := by rw [← hW1]; exact RhsAt.new _ _ _ _ _ _ _ _ _ _ _ _
  obtain ⟨c0, c1, c2, c3, c4, cl⟩ := hR
  have g0 : W1.cell? ⟨w.heap.size, 0, none⟩ = some (.int .i64 x) := (hb1.cell (p := ⟨w.heap.size, 0, none⟩) hs0).trans d0
  have HB := Lib.hid (hb0.trans (hb1.mono hb0.size))
  clear hb0 hb1
  by_cases h9 : n ≤ 9
  · have ht : twoF n = true := by simp [twoF, h9]
    have HT := Lib.hid ht
    clear ht
    go_enter Try.func60, Try.ntmps60
    go_wp2_with (go_at_call 43; refine (within_any _ _ _ _).mono ?_; rintro en w' ⟨rfl, rfl⟩)
    go_ret
    exact ⟨ret_bool (by have := nat_eq_bool na 2; have h := HT.out; simpa [countB, h] using this), HB.out⟩
  · have h9' : ¬ n ≤ 9 := h9
    cases h12 : (n == 12)
    · cases h16 : (n == 16)
      · have ht : twoF n = false := by simp [twoF, h9]; simp at h12 h16; exact ⟨h12, h16⟩
        have HT := Lib.hid ht
        clear ht
        go_enter Try.func60, Try.ntmps60
        go_wp2_with (go_at_call 43; refine (within_any _ _ _ _).mono ?_; rintro en w' ⟨rfl, rfl⟩)
        go_ret
        exact ⟨ret_bool (by have := nat_eq_bool na 1; have h := HT.out; simpa [countB, h] using this), HB.out⟩
      · have ht : twoF n = true := by simp [twoF]; simp at h16; omega
        have HT := Lib.hid ht
        clear ht
        go_enter Try.func60, Try.ntmps60
        go_wp2_with (go_at_call 43; refine (within_any _ _ _ _).mono ?_; rintro en w' ⟨rfl, rfl⟩)
        go_ret
        exact ⟨ret_bool (by have := nat_eq_bool na 2; have h := HT.out; simpa [countB, h] using this), HB.out⟩
    · have ht : twoF n = true := by simp [twoF]; simp at h12; omega
      have HT := Lib.hid ht
      clear ht
      go_enter Try.func60, Try.ntmps60
      go_wp2_with (go_at_call 43; refine (within_any _ _ _ _).mono ?_; rintro en w' ⟨rfl, rfl⟩)
      go_ret
      exact ⟨ret_bool (by have := nat_eq_bool na 2; have h := HT.out; simpa [countB, h] using this), HB.out⟩
set_option maxRecDepth 100000 in
set_option maxHeartbeats 1000000 in
theorem count_switch (hl : ks.length * 8 ≤ 140737488351232) : Calls Try.prog 60 #[.agg #[.int .i64 x, .int .i64 8, .int .i64 n, .slice Aa na ca, .slice Ak ks.length ck, .slice Al nb cb]] w fun e w' => e = .returned (.bool (countB x 8 n na ks nb)) ∧ Below w.heap.size w w' := by
  obtain ⟨W0, hW0⟩ : ∃ W0, w.alloc (.cells #[.int .i64 x, .int .i64 8, .int .i64 n, .slice Aa na ca, .slice Ak ks.length ck, .slice Al nb cb] 54) = W0 := ⟨_, rfl⟩
  have hb0 : Below w.heap.size w W0 := by rw [← hW0]; exact (Below.refl _ _).alloc (Nat.le_refl _) _
  have hs0 : w.heap.size < W0.heap.size := by rw [← hW0]; simp
  obtain ⟨W1, hW1⟩ : ∃ W1, W0.alloc (.cells #[.int .i64 8, .int .i64 n, .slice Aa na ca, .slice Ak ks.length ck, .slice Al nb cb] 52) = W1 := ⟨_, rfl⟩
  have hb1 : Below W0.heap.size W0 W1 := by rw [← hW1]; exact (Below.refl _ _).alloc (Nat.le_refl _) _
  have d0 : W0.cell? ⟨w.heap.size, 0, none⟩ = some (.int .i64 x) := by rw [← hW0, World.cell?_alloc_at _ _ _ _ rfl]; rfl
  have d1 : W0.cell? ⟨w.heap.size, 1, none⟩ = some (.int .i64 8) := by rw [← hW0, World.cell?_alloc_at _ _ _ _ rfl]; rfl
  have d2 : W0.cell? ⟨w.heap.size, 2, none⟩ = some (.int .i64 n) := by rw [← hW0, World.cell?_alloc_at _ _ _ _ rfl]; rfl
  have d3 : W0.cell? ⟨w.heap.size, 3, none⟩ = some (.slice Aa na ca) := by rw [← hW0, World.cell?_alloc_at _ _ _ _ rfl]; rfl
  have d4 : W0.cell? ⟨w.heap.size, 4, none⟩ = some (.slice Ak ks.length ck) := by rw [← hW0, World.cell?_alloc_at _ _ _ _ rfl]; rfl
  have d5 : W0.cell? ⟨w.heap.size, 5, none⟩ = some (.slice Al nb cb) := by rw [← hW0, World.cell?_alloc_at _ _ _ _ rfl]; rfl
  have hR : RhsAt W0 W1 W0.heap.size 8 n Aa Ak Al na ca ks.length ck nb cb := by rw [← hW1]; exact RhsAt.new _ _ _ _ _ _ _ _ _ _ _ _
  obtain ⟨c0, c1, c2, c3, c4, cl⟩ := hR
  have g0 : W1.cell? ⟨w.heap.size, 0, none⟩ = some (.int .i64 x) := (hb1.cell (p := ⟨w.heap.size, 0, none⟩) hs0).trans d0
  have HB := Lib.hid (hb0.trans (hb1.mono hb0.size))
  clear hb0 hb1
  have hw : IntKind.i64.wrap ((ks.length : Int) + 1) = (ks.length : Int) + 1 := by rw [IntKind.wrap_i64]; omega
  cases h1 : ((na : Int) == 1)
  · have HT := Lib.hid (show countB x 8 n na ks nb = false from by rw [show ((na : Int) == 1) = (na == 1) from nat_eq_bool na 1] at h1; simp [countB, h1])
    go_enter Try.func60, Try.ntmps60
    go_wp2_with (go_at_call 43; refine (within_any _ _ _ _).mono ?_; rintro en w' ⟨rfl, rfl⟩)
    go_ret
    exact ⟨ret_bool HT.out.symm, HB.out⟩
  · have HT := Lib.hid (show countB x 8 n na ks nb = ((nb : Int) == (ks.length : Int) + 1) from by rw [show ((na : Int) == 1) = (na == 1) from nat_eq_bool na 1] at h1; have := nat_eq_bool nb (ks.length + 1); simp [countB, h1]; simpa using this.symm)
    go_enter Try.func60, Try.ntmps60
    go_wp2_with (go_at_call 43; refine (within_any _ _ _ _).mono ?_; rintro en w' ⟨rfl, rfl⟩)
    go_ret
    exact ⟨ret_bool HT.out.symm, HB.out⟩
set_option maxRecDepth 100000 in
set_option maxHeartbeats 1000000 in
theorem count_other (k : Int) (hk : k ≠ 6 ∧ k ≠ 2 ∧ k ≠ 3 ∧ k ≠ 9 ∧ k ≠ 8 ∧ k ≠ 10) : Calls Try.prog 60 #[.agg #[.int .i64 x, .int .i64 k, .int .i64 n, .slice Aa na ca, .slice Ak ks.length ck, .slice Al nb cb]] w fun e w' => e = .returned (.bool (countB x k n na ks nb)) ∧ Below w.heap.size w w' := by
  have e2 : (k == 2) = false := by simp; omega
  have e3 : (k == 3) = false := by simp; omega
  have e6 : (k == 6) = false := by simp; omega
  have e8 : (k == 8) = false := by simp; omega
  have e9 : (k == 9) = false := by simp; omega
  have e10 : (k == 10) = false := by simp; omega
  have HT := Lib.hid (show countB x k n na ks nb = (na == 1) from by obtain ⟨h6, h2, h3, h9, h8, h10⟩ := hk; simp [countB, h6, h2, h3, h9, h8, h10])
  clear hk
  obtain ⟨W0, hW0⟩ : ∃ W0, w.alloc (.cells #[.int .i64 x, .int .i64 k, .int .i64 n, .slice Aa na ca, .slice Ak ks.length ck, .slice Al nb cb] 54) = W0 := ⟨_, rfl⟩
  have hb0 : Below w.heap.size w W0 := by rw [← hW0]; exact (Below.refl _ _).alloc (Nat.le_refl _) _
  have hs0 : w.heap.size < W0.heap.size := by rw [← hW0]; simp
  obtain ⟨W1, hW1⟩ : ∃ W1, W0.alloc (.cells #[.int .i64 k, .int .i64 n, .slice Aa na ca, .slice Ak ks.length ck, .slice Al nb cb] 52) = W1 := ⟨_, rfl⟩
  have hb1 : Below W0.heap.size W0 W1 := by rw [← hW1]; exact (Below.refl _ _).alloc (Nat.le_refl _) _
  have d0 : W0.cell? ⟨w.heap.size, 0, none⟩ = some (.int .i64 x) := by rw [← hW0, World.cell?_alloc_at _ _ _ _ rfl]; rfl
  have d1 : W0.cell? ⟨w.heap.size, 1, none⟩ = some (.int .i64 k) := by rw [← hW0, World.cell?_alloc_at _ _ _ _ rfl]; rfl
  have d2 : W0.cell? ⟨w.heap.size, 2, none⟩ = some (.int .i64 n) := by rw [← hW0, World.cell?_alloc_at _ _ _ _ rfl]; rfl
  have d3 : W0.cell? ⟨w.heap.size, 3, none⟩ = some (.slice Aa na ca) := by rw [← hW0, World.cell?_alloc_at _ _ _ _ rfl]; rfl
  have d4 : W0.cell? ⟨w.heap.size, 4, none⟩ = some (.slice Ak ks.length ck) := by rw [← hW0, World.cell?_alloc_at _ _ _ _ rfl]; rfl
  have d5 : W0.cell? ⟨w.heap.size, 5, none⟩ = some (.slice Al nb cb) := by rw [← hW0, World.cell?_alloc_at _ _ _ _ rfl]; rfl
  have hR : RhsAt W0 W1 W0.heap.size k n Aa Ak Al na ca ks.length ck nb cb := by rw [← hW1]; exact RhsAt.new _ _ _ _ _ _ _ _ _ _ _ _
  obtain ⟨c0, c1, c2, c3, c4, cl⟩ := hR
  have g0 : W1.cell? ⟨w.heap.size, 0, none⟩ = some (.int .i64 x) := (hb1.cell (p := ⟨w.heap.size, 0, none⟩) hs0).trans d0
  have HB := Lib.hid (hb0.trans (hb1.mono hb0.size))
  clear hb0 hb1
  go_enter Try.func60, Try.ntmps60
  go_wp2_with (go_at_call 43; refine (within_any _ _ _ _).mono ?_; rintro en w' ⟨rfl, rfl⟩)
  go_ret
  exact ⟨ret_bool (by have := nat_eq_bool na 1; rw [HT.out]; simpa using this), HB.out⟩
set_option maxRecDepth 100000 in
set_option maxHeartbeats 1000000 in
theorem count_group (hk : IntsIn w.heap.size w Ak ks) (hkc : ks.length ≤ ck) : Calls Try.prog 60 #[.agg #[.int .i64 x, .int .i64 10, .int .i64 n, .slice Aa na ca, .slice Ak ks.length ck, .slice Al nb cb]] w fun e w' => e = .returned (.bool (countB x 10 n na ks nb)) ∧ Below w.heap.size w w' := by
  have HK := Lib.hid (fun (V : World) (hV : Below w.heap.size w V) => (show 0 < ks.length → ∃ b o, Ak = some ⟨b, o, none⟩ ∧ ∀ j, j < ks.length → V.cell? ⟨b, o + j, none⟩ = some (.int .i64 (nth ks j)) from fun h0 => by
    obtain ⟨b, o, h1, h2, h3⟩ := hk.at_ h0
    exact ⟨b, o, h1, fun j hj => (hV.cell (p := ⟨_, _, none⟩) h2).trans (h3 j hj)⟩))
  have h64 := hk.1
  clear hk
  obtain ⟨W0, hW0⟩ : ∃ W0, w.alloc (.cells #[.int .i64 x, .int .i64 10, .int .i64 n, .slice Aa na ca, .slice Ak ks.length ck, .slice Al nb cb] 54) = W0 := ⟨_, rfl⟩
  have hb0 : Below w.heap.size w W0 := by rw [← hW0]; exact (Below.refl _ _).alloc (Nat.le_refl _) _
  have hs0 : w.heap.size < W0.heap.size := by rw [← hW0]; simp
  obtain ⟨W1, hW1⟩ : ∃ W1, W0.alloc (.cells #[.int .i64 10, .int .i64 n, .slice Aa na ca, .slice Ak ks.length ck, .slice Al nb cb] 52) = W1 := ⟨_, rfl⟩
  have hb1 : Below W0.heap.size W0 W1 := by rw [← hW1]; exact (Below.refl _ _).alloc (Nat.le_refl _) _
  have d0 : W0.cell? ⟨w.heap.size, 0, none⟩ = some (.int .i64 x) := by rw [← hW0, World.cell?_alloc_at _ _ _ _ rfl]; rfl
  have d1 : W0.cell? ⟨w.heap.size, 1, none⟩ = some (.int .i64 10) := by rw [← hW0, World.cell?_alloc_at _ _ _ _ rfl]; rfl
  have d2 : W0.cell? ⟨w.heap.size, 2, none⟩ = some (.int .i64 n) := by rw [← hW0, World.cell?_alloc_at _ _ _ _ rfl]; rfl
  have d3 : W0.cell? ⟨w.heap.size, 3, none⟩ = some (.slice Aa na ca) := by rw [← hW0, World.cell?_alloc_at _ _ _ _ rfl]; rfl
  have d4 : W0.cell? ⟨w.heap.size, 4, none⟩ = some (.slice Ak ks.length ck) := by rw [← hW0, World.cell?_alloc_at _ _ _ _ rfl]; rfl
  have d5 : W0.cell? ⟨w.heap.size, 5, none⟩ = some (.slice Al nb cb) := by rw [← hW0, World.cell?_alloc_at _ _ _ _ rfl]; rfl
  have hR : RhsAt W0 W1 W0.heap.size 10 n Aa Ak Al na ca ks.length ck nb cb := by rw [← hW1]; exact RhsAt.new _ _ _ _ _ _ _ _ _ _ _ _
  obtain ⟨c0, c1, c2, c3, c4, cl⟩ := hR
  have g0 : W1.cell? ⟨w.heap.size, 0, none⟩ = some (.int .i64 x) := (hb1.cell (p := ⟨w.heap.size, 0, none⟩) hs0).trans d0
  have HB := Lib.hid (hb0.trans (hb1.mono hb0.size))
  clear hb0 hb1
  obtain ⟨out, hout⟩ : ∃ o, countB x 10 n na ks nb = o := ⟨_, rfl⟩
  rw [hout]
  have HO := Lib.hid (show out = ((groupH ks).all (fun h => inB h 0 255) && decide (3 ≤ ks.length) && ks.length % 3 == 0 && sumL (groupH ks) == (na : Int) && nth ks 0 == x) from hout.symm.trans (by simp [countB]))
  clear hout
  have HKK := Lib.hid (HK.out W1 HB.out)
  clear HK
  have HG := Lib.hid (groupH_get' ks)
  have hl := groupH_len ks
  obtain ⟨L, hL⟩ : ∃ L, ks.length = L := ⟨_, rfl⟩
  rw [hL] at hW0 hW1 d4 c3 hkc HO HKK HG hl h64 ⊢
  clear hL
  have HL := Lib.hid hl
  go_enter Try.func60, Try.ntmps60
  go_wp2_with fail
  go_loopw [6, 7] (fun hv iv wr => ∃ j : Nat, 3 * j ≤ L ∧ iv = .int .i64 (3 * (j : Int) + 2) ∧ hv = .int .i64 (sumL ((groupH ks).take j)) ∧ W1 = wr ∧ Hid (((groupH ks).take j).all (fun h => inB h 0 255) = true) ∧ 0 ≤ sumL ((groupH ks).take j) ∧ sumL ((groupH ks).take j) ≤ 255 * (j : Int)) (fun _ iv _ => 3 * L + 9 - (intOf iv).toNat)
  case atStart => exact ⟨0, by omega, rfl, rfl, rfl, Lib.hid (by simp), by simp [sumL], by simp [sumL]⟩
  case round =>
    obtain ⟨j, hj, rfl, rfl, rfl, HA, hs1, hs2⟩ := hrel
    by_cases hlt : 3 * j + 2 < L
    · obtain ⟨b, o, rfl, hall⟩ := HKK.out (by omega)
      have qk := hall (3 * j + 2) hlt
      clear hall
      have e1 : (0 : Int) ≤ 3 * (j : Int) + 2 := by omega
      have e2 : 3 * (j : Int) + 2 < (L : Int) := by omega
      have e3 : (3 * (j : Int) + 2).toNat = 3 * j + 2 := by omega
      have e4 : IntKind.i64.wrap (3 * (j : Int) + 2 + 3) = 3 * (j : Int) + 2 + 3 := by rw [IntKind.wrap_i64]; omega
      have e5 : (L : Int) ≤ (ck : Int) := by omega
      have HGJ := Lib.hid (HG.out j hlt)
      cases hin : inB (nth ks (3 * j + 2)) 0 255
      · have HF := Lib.hid (show out = false from HO.out.trans (by rw [all_false HGJ.out hin]; rfl))
        go_wp2_with (go_at_call 43; refine (within_any _ _ _ _).mono ?_; rintro en w' ⟨rfl, rfl⟩)
        go_ret
        exact ⟨ret_bool HF.out.symm, HB.out⟩
      · have HA2 := Lib.hid (all_take_succ HGJ.out HA.out hin)
        have hrng := inB_iff.1 hin
        have hsum : sumL ((groupH ks).take (j + 1)) = sumL ((groupH ks).take j) + nth ks (3 * j + 2) := by
          rw [List.take_add_one, HGJ.out]
          exact sumL_append _ _
        have HSUM := Lib.hid hsum
        have e6 : IntKind.i64.wrap (sumL ((groupH ks).take j) + nth ks (3 * j + 2)) = sumL ((groupH ks).take j) + nth ks (3 * j + 2) := by rw [IntKind.wrap_i64]; omega
        clear hsum
        generalize hS : sumL ((groupH ks).take j) = S at *
        go_wp2_with (go_at_call 43; refine (within_any _ _ _ _).mono ?_; rintro en w' ⟨rfl, rfl⟩)
        go_roundw
        case rel => exact ⟨j + 1, by omega, by go_num, by rw [HSUM.out], (by first | rfl | trivial), HA2, by rw [HSUM.out]; omega, by rw [HSUM.out]; omega⟩
        case measure => simp [intOf]; omega
    · have e2 : ¬ 3 * (j : Int) + 2 < (L : Int) := by omega
      have hfin : (groupH ks).take j = groupH ks := List.take_of_length_le (by rw [HL.out]; omega)
      have HAA := HA.out
      rw [hfin] at HAA hs1 hs2 ⊢
      have HO2 := Lib.hid (show out = (decide (3 ≤ L) && L % 3 == 0 && sumL (groupH ks) == (na : Int) && nth ks 0 == x) from HO.out.trans (by rw [HAA]; simp))
      clear hfin HAA HA
      generalize sumL (groupH ks) = S at *
      by_cases h3 : 3 ≤ L
      · obtain ⟨b, o, rfl, hall⟩ := HKK.out (by omega)
        have qk := hall 0 (by omega)
        clear hall
        have e3 : (3 : Int) ≤ (L : Int) := by omega
        have e5 : (0 : Int) < (L : Int) := by omega
        have e6 : (L : Int) ≤ (ck : Int) := by omega
        have hm : (L : Int).tmod 3 = ((L % 3 : Nat) : Int) := by rw [Int.tmod_eq_emod_of_nonneg (by omega)]; omega
        simp only [Nat.add_zero] at qk
        have x1 : (((L % 3 : Nat) : Int) == 0) = (L % 3 == 0) := nat_eq_bool _ 0
        obtain ⟨md, hmd⟩ : ∃ md : Int, (L : Int).tmod 3 = md := ⟨_, rfl⟩
        have hmd2 : (md == 0) = (L % 3 == 0) := by rw [← hmd, hm]; exact x1
        have HO3 := Lib.hid (show out = ((md == 0) && S == (na : Int) && nth ks 0 == x) from HO2.out.trans (by rw [hmd2]; simp [h3]))
        clear hm x1 hmd2
        cases y1 : (md == 0)
        · go_wp2_with fail
          go_quiet (fail)
          go_wp2_with fail
          go_ret
          exact ⟨ret_bool (by rw [HO3.out, y1]; rfl), below_drewN HB.out _⟩
        · cases y2 : (S == (na : Int))
          · go_wp2_with fail
            go_quiet (fail)
            go_wp2_with fail
            go_ret
            exact ⟨ret_bool (by rw [HO3.out, y1, y2]; rfl), below_drewN HB.out _⟩
          · go_wp2_with fail
            go_quiet (fail)
            go_wp2_with fail
            go_ret
            exact ⟨ret_bool (by rw [HO3.out, y1, y2]; rfl), below_drewN HB.out _⟩
      · have e3 : decide ((3 : Int) ≤ (L : Int)) = false := by simp; omega
        have HF := Lib.hid (show out = false from HO2.out.trans (by simp [h3]))
        go_wp2_with fail
        go_quiet (fail)
        go_wp2_with fail
        go_ret
        exact ⟨ret_bool HF.out.symm, below_drewN HB.out _⟩
theorem count_any (k : Int) (hk : IntsIn w.heap.size w Ak ks) (hkc : ks.length ≤ ck) : Calls Try.prog 60 #[.agg #[.int .i64 x, .int .i64 k, .int .i64 n, .slice Aa na ca, .slice Ak ks.length ck, .slice Al nb cb]] w fun e w' => e = .returned (.bool (countB x k n na ks nb)) ∧ Below w.heap.size w w' := by
  by_cases h6 : k = 6
  · subst h6; exact count_app x n Aa Ak Al na ca ck nb cb ks w
  by_cases h2 : k = 2
  · subst h2; exact count_prim x n Aa Ak Al na ca ck nb cb ks w
  by_cases h3 : k = 3
  · subst h3; exact count_block x n Aa Ak Al na ca ck nb cb ks w
  by_cases h9 : k = 9
  · subst h9; exact count_close x n Aa Ak Al na ca ck nb cb ks w
  by_cases h8 : k = 8
  · subst h8; exact count_switch x n Aa Ak Al na ca ck nb cb ks w hk.1
  by_cases h10 : k = 10
  · subst h10; exact count_group x n Aa Ak Al na ca ck nb cb ks w hk hkc
  exact count_other x n Aa Ak Al na ca ck nb cb ks w k ⟨h6, h2, h3, h9, h8, h10⟩
end
end Go.Proofs.Ytnobggabjpcbfaa

/-
  clos: slices.ContainsFunc over atoms, number, bind.
-/
set_option linter.unusedVariables false
set_option linter.unusedSimpArgs false
namespace Go.Proofs.Ytnobggabjpcbfaa
open Go.RowKit

set_option maxRecDepth 100000 in
set_option maxHeartbeats 1000000 in
theorem index_num {W : World} {ats : List Atm} {Aa : Option Addr} {ca : Nat} (ha : AtomsIn W.heap.size W Aa ats) (hac : ats.length ≤ ca) (P : Atm → Bool) (hP : ∀ a ∈ ats, ∀ V : World, Below W.heap.size W V → Calls Try.prog 70 #[.agg #[.bool a.v, .int .i64 a.n]] V fun e w' => e = .returned (.bool (P a)) ∧ Below V.heap.size V w') :
    Calls Try.prog 63 #[.slice Aa ats.length ca, .func (.func 70) #[] #[]] W fun e w' => ∃ i : Int, e = .returned (.int .i64 i) ∧ decide (0 ≤ i) = ats.any P ∧ Below W.heap.size W w' := by
  have HA := Lib.hid (fun (j : Nat) (hj : j < ats.length) (V : World) (hV : Below W.heap.size W V) => (show ∃ b o, Aa = some ⟨b, o, none⟩ ∧ V.cell? ⟨b, o + j * 2, none⟩ = some (.bool ats[j].v) ∧ V.cell? ⟨b, o + j * 2 + 1, none⟩ = some (.int .i64 ats[j].n) from by
    rcases ha.2 with rfl | ⟨b, o, rfl, hlt, hc⟩
    · simp at hj
    · have := hc j hj
      simp only [List.getElem?_eq_getElem hj, Option.getD_some] at this
      exact ⟨b, o, rfl, (hV.cell (p := ⟨_, _, none⟩) hlt).trans this.1, (hV.cell (p := ⟨_, _, none⟩) hlt).trans this.2⟩))
  have HP := Lib.hid (fun (j : Nat) (hj : j < ats.length) => hP ats[j] (List.getElem_mem hj))
  have h16 := ha.1
  clear ha hP
  obtain ⟨L, hL⟩ : ∃ L, ats.length = L := ⟨_, rfl⟩
  have HL := Lib.hid hL
  rw [hL] at h16 hac ⊢
  clear hL
  go_enter Try.func63, Try.ntmps63
  go_wp2_with fail
  go_loopw [8] (fun iv wr => ∃ j : Nat, j ≤ L ∧ iv = .int .i64 (j : Int) ∧ Hid (Below W.heap.size W wr) ∧ Hid (∀ i, i < j → ∀ x, ats[i]? = some x → P x = false)) (fun iv _ => L + 1 - (intOf iv).toNat)
  case atStart => exact ⟨0, by omega, rfl, Lib.hid (Below.refl _ _), Lib.hid (fun i hi => by omega)⟩
  case round =>
    obtain ⟨j, hj, rfl, HW, HN⟩ := hrel
    by_cases hlt : j < L
    · have hja : j < ats.length := by rw [HL.out]; exact hlt
      obtain ⟨b, o, rfl, c0, c1⟩ := HA.out j hja wr HW.out
      have HC := Lib.hid (HP.out j hja wr HW.out)
      have HG := Lib.hid (List.getElem?_eq_getElem hja)
      generalize ats[j] = at_ at *
      obtain ⟨av, an⟩ := at_
      have e1 : (0 : Int) ≤ (j : Int) := by omega
      have e2 : (j : Int) < (L : Int) := by omega
      have e4 : IntKind.i64.wrap ((j : Int) + 1) = (j : Int) + 1 := by rw [IntKind.wrap_i64]; omega
      have e5 : (L : Int) ≤ (ca : Int) := by omega
      cases hp : P ⟨av, an⟩
      · rw [hp] at HC
        have HN2 := Lib.hid (show ∀ i, i < j + 1 → ∀ x, ats[i]? = some x → P x = false from fun i hi x hx => by
          by_cases hij : i = j
          · subst hij
            rw [HG.out] at hx
            cases hx
            exact hp
          · exact HN.out i (by omega) x hx)
        clear hp
        go_wp2_with fail
        refine HC.out.mono ?_
        rintro en w' ⟨rfl, hb⟩
        have HW2 := Lib.hid (HW.out.trans (hb.mono HW.out.size))
        clear hb
        go_wp2_with fail
        go_roundw
        case rel => exact ⟨j + 1, by omega, by go_num, HW2, HN2⟩
        case measure => simp [intOf]; omega
      · rw [hp] at HC
        have HT := Lib.hid (show ats.any P = true from List.any_eq_true.2 ⟨_, List.mem_of_getElem? HG.out, hp⟩)
        clear hp
        go_wp2_with fail
        refine HC.out.mono ?_
        rintro en w' ⟨rfl, hb⟩
        have HW2 := Lib.hid (HW.out.trans (hb.mono HW.out.size))
        clear hb
        go_wp2_with fail
        go_ret
        exact ⟨(j : Int), rfl, by rw [HT.out]; simp, HW2.out⟩
    · have e2 : ¬ (j : Int) < (L : Int) := by omega
      have HF := Lib.hid (show ats.any P = false from any_false_take HN.out (by rw [HL.out]; omega))
      go_wp2_with fail
      go_ret
      exact ⟨-1, rfl, by rw [HF.out]; decide, HW.out⟩
theorem contains_num {W : World} {ats : List Atm} {Aa : Option Addr} {ca : Nat} (ha : AtomsIn W.heap.size W Aa ats) (hac : ats.length ≤ ca) (P : Atm → Bool) (hP : ∀ a ∈ ats, ∀ V : World, Below W.heap.size W V → Calls Try.prog 70 #[.agg #[.bool a.v, .int .i64 a.n]] V fun e w' => e = .returned (.bool (P a)) ∧ Below V.heap.size V w') :
    Calls Try.prog 46 #[.slice Aa ats.length ca, .func (.func 70) #[] #[]] W fun e w' => e = .returned (.bool (ats.any P)) ∧ Below W.heap.size W w' := by
  have HC := Lib.hid (index_num ha hac P hP)
  clear ha hP
  go_enter Try.func46, Try.ntmps46
  go_wp2_with fail
  refine HC.out.mono ?_
  rintro en w' ⟨i, rfl, hi, hb⟩
  have HI := Lib.hid hi
  have HB := Lib.hid hb
  clear hi hb
  go_wp2_with fail
  go_ret
  exact ⟨ret_bool HI.out, HB.out⟩
set_option maxRecDepth 100000 in
set_option maxHeartbeats 1000000 in
theorem index_ask {vb : Nat} {W : World} {ats : List Atm} {Aa : Option Addr} {ca : Nat} (ha : AtomsIn W.heap.size W Aa ats) (hac : ats.length ≤ ca) (P : Atm → Bool) (hP : ∀ a ∈ ats, ∀ V : World, Below W.heap.size W V → Calls Try.prog 47 #[.agg #[.bool a.v, .int .i64 a.n], .pointer (some ⟨vb, 0, none⟩)] V fun e w' => e = .returned (.bool (P a)) ∧ Below V.heap.size V w') :
    Calls Try.prog 63 #[.slice Aa ats.length ca, .func (.func 47) #[] #[.pointer (some ⟨vb, 0, none⟩)]] W fun e w' => ∃ i : Int, e = .returned (.int .i64 i) ∧ decide (0 ≤ i) = ats.any P ∧ Below W.heap.size W w' := by
  have HA := Lib.hid (fun (j : Nat) (hj : j < ats.length) (V : World) (hV : Below W.heap.size W V) => (show ∃ b o, Aa = some ⟨b, o, none⟩ ∧ V.cell? ⟨b, o + j * 2, none⟩ = some (.bool ats[j].v) ∧ V.cell? ⟨b, o + j * 2 + 1, none⟩ = some (.int .i64 ats[j].n) from by
    rcases ha.2 with rfl | ⟨b, o, rfl, hlt, hc⟩
    · simp at hj
    · have := hc j hj
      simp only [List.getElem?_eq_getElem hj, Option.getD_some] at this
      exact ⟨b, o, rfl, (hV.cell (p := ⟨_, _, none⟩) hlt).trans this.1, (hV.cell (p := ⟨_, _, none⟩) hlt).trans this.2⟩))
  have HP := Lib.hid (fun (j : Nat) (hj : j < ats.length) => hP ats[j] (List.getElem_mem hj))
  have h16 := ha.1
  clear ha hP
  obtain ⟨L, hL⟩ : ∃ L, ats.length = L := ⟨_, rfl⟩
  have HL := Lib.hid hL
  rw [hL] at h16 hac ⊢
  clear hL
  go_enter Try.func63, Try.ntmps63
  go_wp2_with fail
  go_loopw [8] (fun iv wr => ∃ j : Nat, j ≤ L ∧ iv = .int .i64 (j : Int) ∧ Hid (Below W.heap.size W wr) ∧ Hid (∀ i, i < j → ∀ x, ats[i]? = some x → P x = false)) (fun iv _ => L + 1 - (intOf iv).toNat)
  case atStart => exact ⟨0, by omega, rfl, Lib.hid (Below.refl _ _), Lib.hid (fun i hi => by omega)⟩
  case round =>
    obtain ⟨j, hj, rfl, HW, HN⟩ := hrel
    by_cases hlt : j < L
    · have hja : j < ats.length := by rw [HL.out]; exact hlt
      obtain ⟨b, o, rfl, c0, c1⟩ := HA.out j hja wr HW.out
      have HC := Lib.hid (HP.out j hja wr HW.out)
      have HG := Lib.hid (List.getElem?_eq_getElem hja)
      generalize ats[j] = at_ at *
      obtain ⟨av, an⟩ := at_
      have e1 : (0 : Int) ≤ (j : Int) := by omega
      have e2 : (j : Int) < (L : Int) := by omega
      have e4 : IntKind.i64.wrap ((j : Int) + 1) = (j : Int) + 1 := by rw [IntKind.wrap_i64]; omega
      have e5 : (L : Int) ≤ (ca : Int) := by omega
      cases hp : P ⟨av, an⟩
      · rw [hp] at HC
        have HN2 := Lib.hid (show ∀ i, i < j + 1 → ∀ x, ats[i]? = some x → P x = false from fun i hi x hx => by
          by_cases hij : i = j
          · subst hij
            rw [HG.out] at hx
            cases hx
            exact hp
          · exact HN.out i (by omega) x hx)
        clear hp
        go_wp2_with fail
        refine HC.out.mono ?_
        rintro en w' ⟨rfl, hb⟩
        have HW2 := Lib.hid (HW.out.trans (hb.mono HW.out.size))
        clear hb
        go_wp2_with fail
        go_roundw
        case rel => exact ⟨j + 1, by omega, by go_num, HW2, HN2⟩
        case measure => simp [intOf]; omega
      · rw [hp] at HC
        have HT := Lib.hid (show ats.any P = true from List.any_eq_true.2 ⟨_, List.mem_of_getElem? HG.out, hp⟩)
        clear hp
        go_wp2_with fail
        refine HC.out.mono ?_
        rintro en w' ⟨rfl, hb⟩
        have HW2 := Lib.hid (HW.out.trans (hb.mono HW.out.size))
        clear hb
        go_wp2_with fail
        go_ret
        exact ⟨(j : Int), rfl, by rw [HT.out]; simp, HW2.out⟩
    · have e2 : ¬ (j : Int) < (L : Int) := by omega
      have HF := Lib.hid (show ats.any P = false from any_false_take HN.out (by rw [HL.out]; omega))
      go_wp2_with fail
      go_ret
      exact ⟨-1, rfl, by rw [HF.out]; decide, HW.out⟩
theorem contains_ask {vb : Nat} {W : World} {ats : List Atm} {Aa : Option Addr} {ca : Nat} (ha : AtomsIn W.heap.size W Aa ats) (hac : ats.length ≤ ca) (P : Atm → Bool) (hP : ∀ a ∈ ats, ∀ V : World, Below W.heap.size W V → Calls Try.prog 47 #[.agg #[.bool a.v, .int .i64 a.n], .pointer (some ⟨vb, 0, none⟩)] V fun e w' => e = .returned (.bool (P a)) ∧ Below V.heap.size V w') :
    Calls Try.prog 46 #[.slice Aa ats.length ca, .func (.func 47) #[] #[.pointer (some ⟨vb, 0, none⟩)]] W fun e w' => e = .returned (.bool (ats.any P)) ∧ Below W.heap.size W w' := by
  have HC := Lib.hid (index_ask ha hac P hP)
  clear ha hP
  go_enter Try.func46, Try.ntmps46
  go_wp2_with fail
  refine HC.out.mono ?_
  rintro en w' ⟨i, rfl, hi, hb⟩
  have HI := Lib.hid hi
  have HB := Lib.hid hb
  clear hi hb
  go_wp2_with fail
  go_ret
  exact ⟨ret_bool HI.out, HB.out⟩
end Go.Proofs.Ytnobggabjpcbfaa

/-
  clos: number.
-/
set_option linter.unusedVariables false
set_option linter.unusedSimpArgs false
namespace Go.Proofs.Ytnobggabjpcbfaa
open Go.RowKit

theorem all_of_any (ats : List Atm) : (!(ats.any fun a => !atomB a)) = ats.all atomB := by
  rw [Bool.eq_iff_iff]; simp
section
variable {cb_ mb nf : Nat} (hnf : nf ≤ 1000000) (x n : Int) {Aa Ak Al : Option Addr} {ca ck nb cb : Nat} {ats : List Atm} {ks : List Int} {w : World} (hc : w.heap[cb_]? = some (.cells #[.int .i64 (nf : Int), .map (some mb)] 71 (0, 0))) (ha : AtomsIn w.heap.size w Aa ats) (hac : ats.length ≤ ca) (hk : IntsIn w.heap.size w Ak ks) (hkc : ks.length ≤ ck)
set_option maxRecDepth 100000 in
set_option maxHeartbeats 2000000 in
include hnf hc ha hac hk hkc in
theorem cnum_block : Calls Try.prog 59 #[.pointer (some ⟨cb_, 0, none⟩), .agg #[.int .i64 x, .int .i64 3, .int .i64 n, .slice Aa ats.length ca, .slice Ak ks.length ck, .slice Al nb cb]] w fun e w' => e = .returned (.bool (numberB nf x 3 n ats ks)) ∧ Below w.heap.size w w' := by
  obtain ⟨W0, hW0⟩ : ∃ W0, w.alloc (.cells #[.int .i64 x, .int .i64 3, .int .i64 n, .slice Aa ats.length ca, .slice Ak ks.length ck, .slice Al nb cb] 54) = W0 := ⟨_, rfl⟩
  have hb0 : Below w.heap.size w W0 := by rw [← hW0]; exact (Below.refl _ _).alloc (Nat.le_refl _) _
  have hs0 : w.heap.size < W0.heap.size := by rw [← hW0]; simp
  obtain ⟨W1, hW1⟩ : ∃ W1, W0.alloc (.cells #[.int .i64 3, .int .i64 n, .slice Aa ats.length ca, .slice Ak ks.length ck, .slice Al nb cb] 52) = W1 := ⟨_, rfl⟩
  have hb1 : Below W0.heap.size W0 W1 := by rw [← hW1]; exact (Below.refl _ _).alloc (Nat.le_refl _) _
  have d0 : W0.cell? ⟨w.heap.size, 0, none⟩ = some (.int .i64 x) := by rw [← hW0, World.cell?_alloc_at _ _ _ _ rfl]; rfl
  have d1 : W0.cell? ⟨w.heap.size, 1, none⟩ = some (.int .i64 3) := by rw [← hW0, World.cell?_alloc_at _ _ _ _ rfl]; rfl
  have d2 : W0.cell? ⟨w.heap.size, 2, none⟩ = some (.int .i64 n) := by rw [← hW0, World.cell?_alloc_at _ _ _ _ rfl]; rfl
  have d3 : W0.cell? ⟨w.heap.size, 3, none⟩ = some (.slice Aa ats.length ca) := by rw [← hW0, World.cell?_alloc_at _ _ _ _ rfl]; rfl
  have d4 : W0.cell? ⟨w.heap.size, 4, none⟩ = some (.slice Ak ks.length ck) := by rw [← hW0, World.cell?_alloc_at _ _ _ _ rfl]; rfl
  have d5 : W0.cell? ⟨w.heap.size, 5, none⟩ = some (.slice Al nb cb) := by rw [← hW0, World.cell?_alloc_at _ _ _ _ rfl]; rfl
  have hR : RhsAt W0 W1 W0.heap.size 3 n Aa Ak Al ats.length ca ks.length ck nb cb := by rw [← hW1]; exact RhsAt.new _ _ _ _ _ _ _ _ _ _ _ _
  have HR := Lib.hid (fun (V : World) (hV : Below W1.heap.size W1 V) => hR.behind hV)
  obtain ⟨c0, c1, c2, c3, c4, cl⟩ := hR
  have g0 : W1.cell? ⟨w.heap.size, 0, none⟩ = some (.int .i64 x) := (hb1.cell (p := ⟨w.heap.size, 0, none⟩) hs0).trans d0
  have hB := hb0.trans (hb1.mono hb0.size)
  have cc : w.cell? ⟨cb_, 0, none⟩ = some (.int .i64 (nf : Int)) := by simp [World.cell?, hc]
  have cn : W1.cell? ⟨cb_, 0, none⟩ = some (.int .i64 (nf : Int)) := cell_behind hB cc
  have hw1 : IntKind.i64.wrap ((nf : Int) - 1) = (nf : Int) - 1 := by rw [IntKind.wrap_i64]; omega
  have HCON := Lib.hid (fun (V : World) (hV : Below w.heap.size w V) => (contains_num (W := V) (ats := ats) (Aa := Aa) (ca := ca) ((ha.below hV).mono hV.size) hac (fun a => !atomB a) (fun a _ V' hV' => number1_any a.v a.n V')).mono (R' := fun e V' => e = .returned (.bool (ats.any fun a => !atomB a)) ∧ Below w.heap.size w V') fun e V' h => ⟨h.1, hV.trans (h.2.mono hV.size)⟩)
  have HGR := Lib.hid (fun (V : World) (hV : Below w.heap.size w V) => cgroup_any 3 n Aa Ak Al ats.length ca ck nb cb ks V ((hk.below hV).mono hV.size) hkc)
  have HB := Lib.hid hB
  clear hb0 hb1 hB cc hc ha hk
  obtain ⟨out, hout⟩ : ∃ o, numberB nf x 3 n ats ks = o := ⟨_, rfl⟩
  rw [hout]
  have HO := Lib.hid (show out = (varB x && inB n 0 1023 && ats.all atomB) from hout.symm.trans (by simp [numberB]))
  clear hout
  cases h1 : varB x
  · have HF := Lib.hid (show out = false from HO.out.trans (by rw [h1]; rfl))
    go_enter Try.func59, Try.ntmps59
    go_wp2_with (first | (go_at_call 30; refine (variable_any _ _).mono ?_; rintro en w' ⟨rfl, rfl⟩) | (go_at_call 43; refine (within_any _ _ _ _).mono ?_; rintro en w' ⟨rfl, rfl⟩))
    go_ret
    exact ⟨ret_bool HF.out.symm, HB.out⟩
  · cases h2 : inB n 0 1023
    · have HF := Lib.hid (show out = false from HO.out.trans (by rw [h1, h2]; rfl))
      go_enter Try.func59, Try.ntmps59
      go_wp2_with (first | (go_at_call 30; refine (variable_any _ _).mono ?_; rintro en w' ⟨rfl, rfl⟩) | (go_at_call 43; refine (within_any _ _ _ _).mono ?_; rintro en w' ⟨rfl, rfl⟩))
      go_ret
      exact ⟨ret_bool HF.out.symm, HB.out⟩
    · have HT := Lib.hid (show out = ats.all atomB from HO.out.trans (by rw [h1, h2]; simp))
      go_enter Try.func59, Try.ntmps59
      go_wp2_with (first | (go_at_call 30; refine (variable_any _ _).mono ?_; rintro en w' ⟨rfl, rfl⟩) | (go_at_call 43; refine (within_any _ _ _ _).mono ?_; rintro en w' ⟨rfl, rfl⟩))
      refine (HCON.out _ (HB.out)).mono ?_
      rintro en w' ⟨rfl, hb⟩
      have HB2 := Lib.hid hb
      clear hb
      go_wp2_with fail
      go_ret
      exact ⟨ret_bool (by rw [HT.out]; exact all_of_any ats), HB2.out⟩
set_option maxRecDepth 100000 in
set_option maxHeartbeats 2000000 in
include hnf hc ha hac hk hkc in
theorem cnum_field : Calls Try.prog 59 #[.pointer (some ⟨cb_, 0, none⟩), .agg #[.int .i64 x, .int .i64 4, .int .i64 n, .slice Aa ats.length ca, .slice Ak ks.length ck, .slice Al nb cb]] w fun e w' => e = .returned (.bool (numberB nf x 4 n ats ks)) ∧ Below w.heap.size w w' := by
  obtain ⟨W0, hW0⟩ : ∃ W0, w.alloc (.cells #[.int .i64 x, .int .i64 4, .int .i64 n, .slice Aa ats.length ca, .slice Ak ks.length ck, .slice Al nb cb] 54) = W0 := ⟨_, rfl⟩
  have hb0 : Below w.heap.size w W0 := by rw [← hW0]; exact (Below.refl _ _).alloc (Nat.le_refl _) _
  have hs0 : w.heap.size < W0.heap.size := by rw [← hW0]; simp
  obtain ⟨W1, hW1⟩ : ∃ W1, W0.alloc (.cells #[.int .i64 4, .int .i64 n, .slice Aa ats.length ca, .slice Ak ks.length ck, .slice Al nb cb] 52) = W1 := ⟨_, rfl⟩
  have hb1 : Below W0.heap.size W0 W1 := by rw [← hW1]; exact (Below.refl _ _).alloc (Nat.le_refl _) _
  have d0 : W0.cell? ⟨w.heap.size, 0, none⟩ = some (.int .i64 x) := by rw [← hW0, World.cell?_alloc_at _ _ _ _ rfl]; rfl
  have d1 : W0.cell? ⟨w.heap.size, 1, none⟩ = some (.int .i64 4) := by rw [← hW0, World.cell?_alloc_at _ _ _ _ rfl]; rfl
  have d2 : W0.cell? ⟨w.heap.size, 2, none⟩ = some (.int .i64 n) := by rw [← hW0, World.cell?_alloc_at _ _ _ _ rfl]; rfl
  have d3 : W0.cell? ⟨w.heap.size, 3, none⟩ = some (.slice Aa ats.length ca) := by rw [← hW0, World.cell?_alloc_at _ _ _ _ rfl]; rfl
  have d4 : W0.cell? ⟨w.heap.size, 4, none⟩ = some (.slice Ak ks.length ck) := by rw [← hW0, World.cell?_alloc_at _ _ _ _ rfl]; rfl
  have d5 : W0.cell? ⟨w.heap.size, 5, none⟩ = some (.slice Al nb cb) := by rw [← hW0, World.cell?_alloc_at _ _ _ _ rfl]; rfl
  have hR : RhsAt W0 W1 W0.heap.size 4 n Aa Ak Al ats.length ca ks.length ck nb cb := by rw [← hW1]; exact RhsAt.new _ _ _ _ _ _ _ _ _ _ _ _
  have HR := Lib.hid (fun (V : World) (hV : Below W1.heap.size W1 V) => hR.behind hV)
  obtain ⟨c0, c1, c2, c3, c4, cl⟩ := hR
  have g0 : W1.cell? ⟨w.heap.size, 0, none⟩ = some (.int .i64 x) := (hb1.cell (p := ⟨w.heap.size, 0, none⟩) hs0).trans d0
  have hB := hb0.trans (hb1.mono hb0.size)
  have cc : w.cell? ⟨cb_, 0, none⟩ = some (.int .i64 (nf : Int)) := by simp [World.cell?, hc]
  have cn : W1.cell? ⟨cb_, 0, none⟩ = some (.int .i64 (nf : Int)) := cell_behind hB cc
  have hw1 : IntKind.i64.wrap ((nf : Int) - 1) = (nf : Int) - 1 := by rw [IntKind.wrap_i64]; omega
  have HCON := Lib.hid (fun (V : World) (hV : Below w.heap.size w V) => (contains_num (W := V) (ats := ats) (Aa := Aa) (ca := ca) ((ha.below hV).mono hV.size) hac (fun a => !atomB a) (fun a _ V' hV' => number1_any a.v a.n V')).mono (R' := fun e V' => e = .returned (.bool (ats.any fun a => !atomB a)) ∧ Below w.heap.size w V') fun e V' h => ⟨h.1, hV.trans (h.2.mono hV.size)⟩)
  have HGR := Lib.hid (fun (V : World) (hV : Below w.heap.size w V) => cgroup_any 4 n Aa Ak Al ats.length ca ck nb cb ks V ((hk.below hV).mono hV.size) hkc)
  have HB := Lib.hid hB
  clear hb0 hb1 hB cc hc ha hk
  obtain ⟨out, hout⟩ : ∃ o, numberB nf x 4 n ats ks = o := ⟨_, rfl⟩
  rw [hout]
  have HO := Lib.hid (show out = (varB x && inB n 0 255 && ats.all atomB) from hout.symm.trans (by simp [numberB]))
  clear hout
  cases h1 : varB x
  · have HF := Lib.hid (show out = false from HO.out.trans (by rw [h1]; rfl))
    go_enter Try.func59, Try.ntmps59
    go_wp2_with (first | (go_at_call 30; refine (variable_any _ _).mono ?_; rintro en w' ⟨rfl, rfl⟩) | (go_at_call 43; refine (within_any _ _ _ _).mono ?_; rintro en w' ⟨rfl, rfl⟩))
    go_ret
    exact ⟨ret_bool HF.out.symm, HB.out⟩
  · cases h2 : inB n 0 255
    · have HF := Lib.hid (show out = false from HO.out.trans (by rw [h1, h2]; rfl))
      go_enter Try.func59, Try.ntmps59
      go_wp2_with (first | (go_at_call 30; refine (variable_any _ _).mono ?_; rintro en w' ⟨rfl, rfl⟩) | (go_at_call 43; refine (within_any _ _ _ _).mono ?_; rintro en w' ⟨rfl, rfl⟩))
      go_ret
      exact ⟨ret_bool HF.out.symm, HB.out⟩
    · have HT := Lib.hid (show out = ats.all atomB from HO.out.trans (by rw [h1, h2]; simp))
      go_enter Try.func59, Try.ntmps59
      go_wp2_with (first | (go_at_call 30; refine (variable_any _ _).mono ?_; rintro en w' ⟨rfl, rfl⟩) | (go_at_call 43; refine (within_any _ _ _ _).mono ?_; rintro en w' ⟨rfl, rfl⟩))
      refine (HCON.out _ (HB.out)).mono ?_
      rintro en w' ⟨rfl, hb⟩
      have HB2 := Lib.hid hb
      clear hb
      go_wp2_with fail
      go_ret
      exact ⟨ret_bool (by rw [HT.out]; exact all_of_any ats), HB2.out⟩
set_option maxRecDepth 100000 in
set_option maxHeartbeats 2000000 in
include hnf hc ha hac hk hkc in
theorem cnum_close : Calls Try.prog 59 #[.pointer (some ⟨cb_, 0, none⟩), .agg #[.int .i64 x, .int .i64 9, .int .i64 n, .slice Aa ats.length ca, .slice Ak ks.length ck, .slice Al nb cb]] w fun e w' => e = .returned (.bool (numberB nf x 9 n ats ks)) ∧ Below w.heap.size w w' := by
  obtain ⟨W0, hW0⟩ : ∃ W0, w.alloc (.cells #[.int .i64 x, .int .i64 9, .int .i64 n, .slice Aa ats.length ca, .slice Ak ks.length ck, .slice Al nb cb] 54) = W0 := ⟨_, rfl⟩
  have hb0 : Below w.heap.size w W0 := by rw [← hW0]; exact (Below.refl _ _).alloc (Nat.le_refl _) _
  have hs0 : w.heap.size < W0.heap.size := by rw [← hW0]; simp
  obtain ⟨W1, hW1⟩ : ∃ W1, W0.alloc (.cells #[.int .i64 9, .int .i64 n, .slice Aa ats.length ca, .slice Ak ks.length ck, .slice Al nb cb] 52) = W1 := ⟨_, rfl⟩
  have hb1 : Below W0.heap.size W0 W1 := by rw [← hW1]; exact (Below.refl _ _).alloc (Nat.le_refl _) _
  have d0 : W0.cell? ⟨w.heap.size, 0, none⟩ = some (.int .i64 x) := by rw [← hW0, World.cell?_alloc_at _ _ _ _ rfl]; rfl
  have d1 : W0.cell? ⟨w.heap.size, 1, none⟩ = some (.int .i64 9) := by rw [← hW0, World.cell?_alloc_at _ _ _ _ rfl]; rfl
  have d2 : W0.cell? ⟨w.heap.size, 2, none⟩ = some (.int .i64 n) := by rw [← hW0, World.cell?_alloc_at _ _ _ _ rfl]; rfl
  have d3 : W0.cell? ⟨w.heap.size, 3, none⟩ = some (.slice Aa ats.length ca) := by rw [← hW0, World.cell?_alloc_at _ _ _ _ rfl]; rfl
  have d4 : W0.cell? ⟨w.heap.size, 4, none⟩ = some (.slice Ak ks.length ck) := by rw [← hW0, World.cell?_alloc_at _ _ _ _ rfl]; rfl
  have d5 : W0.cell? ⟨w.heap.size, 5, none⟩ = some (.slice Al nb cb) := by rw [← hW0, World.cell?_alloc_at _ _ _ _ rfl]; rfl
  have hR : RhsAt W0 W1 W0.heap.size 9 n Aa Ak Al ats.length ca ks.length ck nb cb := by rw [← hW1]; exact RhsAt.new _ _ _ _ _ _ _ _ _ _ _ _
  have HR := Lib.hid (fun (V : World) (hV : Below W1.heap.size W1 V) => hR.behind hV)
  obtain ⟨c0, c1, c2, c3, c4, cl⟩ := hR
  have g0 : W1.cell? ⟨w.heap.size, 0, none⟩ = some (.int .i64 x) := (hb1.cell (p := ⟨w.heap.size, 0, none⟩) hs0).trans d0
  have hB := hb0.trans (hb1.mono hb0.size)
  have cc : w.cell? ⟨cb_, 0, none⟩ = some (.int .i64 (nf : Int)) := by simp [World.cell?, hc]
  have cn : W1.cell? ⟨cb_, 0, none⟩ = some (.int .i64 (nf : Int)) := cell_behind hB cc
  have hw1 : IntKind.i64.wrap ((nf : Int) - 1) = (nf : Int) - 1 := by rw [IntKind.wrap_i64]; omega
  have HCON := Lib.hid (fun (V : World) (hV : Below w.heap.size w V) => (contains_num (W := V) (ats := ats) (Aa := Aa) (ca := ca) ((ha.below hV).mono hV.size) hac (fun a => !atomB a) (fun a _ V' hV' => number1_any a.v a.n V')).mono (R' := fun e V' => e = .returned (.bool (ats.any fun a => !atomB a)) ∧ Below w.heap.size w V') fun e V' h => ⟨h.1, hV.trans (h.2.mono hV.size)⟩)
  have HGR := Lib.hid (fun (V : World) (hV : Below w.heap.size w V) => cgroup_any 9 n Aa Ak Al ats.length ca ck nb cb ks V ((hk.below hV).mono hV.size) hkc)
  have HB := Lib.hid hB
  clear hb0 hb1 hB cc hc ha hk
  obtain ⟨out, hout⟩ : ∃ o, numberB nf x 9 n ats ks = o := ⟨_, rfl⟩
  rw [hout]
  have HO := Lib.hid (show out = (varB x && inB n 0 ((nf : Int) - 1) && ats.all atomB) from hout.symm.trans (by simp [numberB]))
  clear hout
  cases h1 : varB x
  · have HF := Lib.hid (show out = false from HO.out.trans (by rw [h1]; rfl))
    go_enter Try.func59, Try.ntmps59
    go_wp2_with (first | (go_at_call 30; refine (variable_any _ _).mono ?_; rintro en w' ⟨rfl, rfl⟩) | (go_at_call 43; refine (within_any _ _ _ _).mono ?_; rintro en w' ⟨rfl, rfl⟩))
    go_quiet ((go_at_call 43; exact Calls.quiet_of_same (within_q _ _ _ _)))
    go_wp2_with (first | (go_at_call 30; refine (variable_any _ _).mono ?_; rintro en w' ⟨rfl, rfl⟩) | (go_at_call 43; refine (within_any _ _ _ _).mono ?_; rintro en w' ⟨rfl, rfl⟩))
    go_ret
    exact ⟨ret_bool HF.out.symm, below_drewN HB.out _⟩
  · cases h2 : inB n 0 ((nf : Int) - 1)
    · have HF := Lib.hid (show out = false from HO.out.trans (by rw [h1, h2]; rfl))
      go_enter Try.func59, Try.ntmps59
      go_wp2_with (first | (go_at_call 30; refine (variable_any _ _).mono ?_; rintro en w' ⟨rfl, rfl⟩) | (go_at_call 43; refine (within_any _ _ _ _).mono ?_; rintro en w' ⟨rfl, rfl⟩))
      go_quiet ((go_at_call 43; exact Calls.quiet_of_same (within_q _ _ _ _)))
      go_wp2_with (first | (go_at_call 30; refine (variable_any _ _).mono ?_; rintro en w' ⟨rfl, rfl⟩) | (go_at_call 43; refine (within_any _ _ _ _).mono ?_; rintro en w' ⟨rfl, rfl⟩))
      go_ret
      exact ⟨ret_bool HF.out.symm, below_drewN HB.out _⟩
    · have HT := Lib.hid (show out = ats.all atomB from HO.out.trans (by rw [h1, h2]; simp))
      go_enter Try.func59, Try.ntmps59
      go_wp2_with (first | (go_at_call 30; refine (variable_any _ _).mono ?_; rintro en w' ⟨rfl, rfl⟩) | (go_at_call 43; refine (within_any _ _ _ _).mono ?_; rintro en w' ⟨rfl, rfl⟩))
      go_quiet ((go_at_call 43; exact Calls.quiet_of_same (within_q _ _ _ _)))
      go_wp2_with (first | (go_at_call 30; refine (variable_any _ _).mono ?_; rintro en w' ⟨rfl, rfl⟩) | (go_at_call 43; refine (within_any _ _ _ _).mono ?_; rintro en w' ⟨rfl, rfl⟩))
      refine (HCON.out _ (below_drewN HB.out _)).mono ?_
      rintro en w' ⟨rfl, hb⟩
      have HB2 := Lib.hid hb
      clear hb
      go_wp2_with fail
      go_ret
      exact ⟨ret_bool (by rw [HT.out]; exact all_of_any ats), HB2.out⟩
set_option maxRecDepth 100000 in
set_option maxHeartbeats 2000000 in
include hnf hc ha hac hk hkc in
theorem cnum_other (k : Int) (hk0 : k ≠ 3 ∧ k ≠ 4 ∧ k ≠ 9 ∧ k ≠ 10) : Calls Try.prog 59 #[.pointer (some ⟨cb_, 0, none⟩), .agg #[.int .i64 x, .int .i64 k, .int .i64 n, .slice Aa ats.length ca, .slice Ak ks.length ck, .slice Al nb cb]] w fun e w' => e = .returned (.bool (numberB nf x k n ats ks)) ∧ Below w.heap.size w w' := by
  have e3 : (k == 3) = false := by simp; omega
  have e4 : (k == 4) = false := by simp; omega
  have e9 : (k == 9) = false := by simp; omega
  have e10 : (k == 10) = false := by simp; omega
  obtain ⟨W0, hW0⟩ : ∃ W0, w.alloc (.cells #[.int .i64 x, .int .i64 k, .int .i64 n, .slice Aa ats.length ca, .slice Ak ks.length ck, .slice Al nb cb] 54) = W0 := ⟨_, rfl⟩
  have hb0 : Below w.heap.size w W0 := by rw [← hW0]; exact (Below.refl _ _).alloc (Nat.le_refl _) _
  have hs0 : w.heap.size < W0.heap.size := by rw [← hW0]; simp
  obtain ⟨W1, hW1⟩ : ∃ W1, W0.alloc (.cells #[.int .i64 k, .int .i64 n, .slice Aa ats.length ca, .slice Ak ks.length ck, .slice Al nb cb] 52) = W1 := ⟨_, rfl⟩
  have hb1 : Below W0.heap.size W0 W1 := by rw [← hW1]; exact (Below.refl _ _).alloc (Nat.le_refl _) _
  have d0 : W0.cell? ⟨w.heap.size, 0, none⟩ = some (.int .i64 x) := by rw [← hW0, World.cell?_alloc_at _ _ _ _ rfl]; rfl
  have d1 : W0.cell? ⟨w.heap.size, 1, none⟩ = some (.int .i64 k) := by rw [← hW0, World.cell?_alloc_at _ _ _ _ rfl]; rfl
  have d2 : W0.cell? ⟨w.heap.size, 2, none⟩ = some (.int .i64 n) := by rw [← hW0, World.cell?_alloc_at _ _ _ _ rfl]; rfl
  have d3 : W0.cell? ⟨w.heap.size, 3, none⟩ = some (.slice Aa ats.length ca) := by rw [← hW0, World.cell?_alloc_at _ _ _ _ rfl]; rfl
  have d4 : W0.cell? ⟨w.heap.size, 4, none⟩ = some (.slice Ak ks.length ck) := by rw [← hW0, World.cell?_alloc_at _ _ _ _ rfl]; rfl
  have d5 : W0.cell? ⟨w.heap.size, 5, none⟩ = some (.slice Al nb cb) := by rw [← hW0, World.cell?_alloc_at _ _ _ _ rfl]; rfl
  have hR : RhsAt W0 W1 W0.heap.size k n Aa Ak Al ats.length ca ks.length ck nb cb := by rw [← hW1]; exact RhsAt.new _ _ _ _ _ _ _ _ _ _ _ _
  have HR := Lib.hid (fun (V : World) (hV : Below W1.heap.size W1 V) => hR.behind hV)
  obtain ⟨c0, c1, c2, c3, c4, cl⟩ := hR
  have g0 : W1.cell? ⟨w.heap.size, 0, none⟩ = some (.int .i64 x) := (hb1.cell (p := ⟨w.heap.size, 0, none⟩) hs0).trans d0
  have hB := hb0.trans (hb1.mono hb0.size)
  have cc : w.cell? ⟨cb_, 0, none⟩ = some (.int .i64 (nf : Int)) := by simp [World.cell?, hc]
  have cn : W1.cell? ⟨cb_, 0, none⟩ = some (.int .i64 (nf : Int)) := cell_behind hB cc
  have hw1 : IntKind.i64.wrap ((nf : Int) - 1) = (nf : Int) - 1 := by rw [IntKind.wrap_i64]; omega
  have HCON := Lib.hid (fun (V : World) (hV : Below w.heap.size w V) => (contains_num (W := V) (ats := ats) (Aa := Aa) (ca := ca) ((ha.below hV).mono hV.size) hac (fun a => !atomB a) (fun a _ V' hV' => number1_any a.v a.n V')).mono (R' := fun e V' => e = .returned (.bool (ats.any fun a => !atomB a)) ∧ Below w.heap.size w V') fun e V' h => ⟨h.1, hV.trans (h.2.mono hV.size)⟩)
  have HGR := Lib.hid (fun (V : World) (hV : Below w.heap.size w V) => cgroup_any k n Aa Ak Al ats.length ca ck nb cb ks V ((hk.below hV).mono hV.size) hkc)
  have HB := Lib.hid hB
  clear hb0 hb1 hB cc hc ha hk
  obtain ⟨out, hout⟩ : ∃ o, numberB nf x k n ats ks = o := ⟨_, rfl⟩
  rw [hout]
  have HO := Lib.hid (show out = (varB x && ats.all atomB) from hout.symm.trans (by obtain ⟨h3, h4, h9, h10⟩ := hk0; have h10' : (k != 10) = true := (by simpa using h10); simp [numberB, h3, h4, h9, h10']))
  clear hout hk0
  cases h1 : varB x
  · have HF := Lib.hid (show out = false from HO.out.trans (by rw [h1]; rfl))
    go_enter Try.func59, Try.ntmps59
    go_wp2_with (first | (go_at_call 30; refine (variable_any _ _).mono ?_; rintro en w' ⟨rfl, rfl⟩) | (go_at_call 43; refine (within_any _ _ _ _).mono ?_; rintro en w' ⟨rfl, rfl⟩))
    go_ret
    exact ⟨ret_bool HF.out.symm, HB.out⟩
  · have HT := Lib.hid (show out = ats.all atomB from HO.out.trans (by rw [h1]; simp))
    go_enter Try.func59, Try.ntmps59
    go_wp2_with (first | (go_at_call 30; refine (variable_any _ _).mono ?_; rintro en w' ⟨rfl, rfl⟩) | (go_at_call 43; refine (within_any _ _ _ _).mono ?_; rintro en w' ⟨rfl, rfl⟩))
    refine (HCON.out _ (HB.out)).mono ?_
    rintro en w' ⟨rfl, hb⟩
    have HB2 := Lib.hid hb
    clear hb
    go_wp2_with fail
    go_ret
    exact ⟨ret_bool (by rw [HT.out]; exact all_of_any ats), HB2.out⟩
set_option maxRecDepth 100000 in
set_option maxHeartbeats 2000000 in
include hnf hc ha hac hk hkc in
theorem cnum_group : Calls Try.prog 59 #[.pointer (some ⟨cb_, 0, none⟩), .agg #[.int .i64 x, .int .i64 10, .int .i64 n, .slice Aa ats.length ca, .slice Ak ks.length ck, .slice Al nb cb]] w fun e w' => e = .returned (.bool (numberB nf x 10 n ats ks)) ∧ Below w.heap.size w w' := by
  obtain ⟨W0, hW0⟩ : ∃ W0, w.alloc (.cells #[.int .i64 x, .int .i64 10, .int .i64 n, .slice Aa ats.length ca, .slice Ak ks.length ck, .slice Al nb cb] 54) = W0 := ⟨_, rfl⟩
  have hb0 : Below w.heap.size w W0 := by rw [← hW0]; exact (Below.refl _ _).alloc (Nat.le_refl _) _
  have hs0 : w.heap.size < W0.heap.size := by rw [← hW0]; simp
  obtain ⟨W1, hW1⟩ : ∃ W1, W0.alloc (.cells #[.int .i64 10, .int .i64 n, .slice Aa ats.length ca, .slice Ak ks.length ck, .slice Al nb cb] 52) = W1 := ⟨_, rfl⟩
  have hb1 : Below W0.heap.size W0 W1 := by rw [← hW1]; exact (Below.refl _ _).alloc (Nat.le_refl _) _
  have d0 : W0.cell? ⟨w.heap.size, 0, none⟩ = some (.int .i64 x) := by rw [← hW0, World.cell?_alloc_at _ _ _ _ rfl]; rfl
  have d1 : W0.cell? ⟨w.heap.size, 1, none⟩ = some (.int .i64 10) := by rw [← hW0, World.cell?_alloc_at _ _ _ _ rfl]; rfl
  have d2 : W0.cell? ⟨w.heap.size, 2, none⟩ = some (.int .i64 n) := by rw [← hW0, World.cell?_alloc_at _ _ _ _ rfl]; rfl
  have d3 : W0.cell? ⟨w.heap.size, 3, none⟩ = some (.slice Aa ats.length ca) := by rw [← hW0, World.cell?_alloc_at _ _ _ _ rfl]; rfl
  have d4 : W0.cell? ⟨w.heap.size, 4, none⟩ = some (.slice Ak ks.length ck) := by rw [← hW0, World.cell?_alloc_at _ _ _ _ rfl]; rfl
  have d5 : W0.cell? ⟨w.heap.size, 5, none⟩ = some (.slice Al nb cb) := by rw [← hW0, World.cell?_alloc_at _ _ _ _ rfl]; rfl
  have hR : RhsAt W0 W1 W0.heap.size 10 n Aa Ak Al ats.length ca ks.length ck nb cb := by rw [← hW1]; exact RhsAt.new _ _ _ _ _ _ _ _ _ _ _ _
  have HR := Lib.hid (fun (V : World) (hV : Below W1.heap.size W1 V) => hR.behind hV)
  obtain ⟨c0, c1, c2, c3, c4, cl⟩ := hR
  have g0 : W1.cell? ⟨w.heap.size, 0, none⟩ = some (.int .i64 x) := (hb1.cell (p := ⟨w.heap.size, 0, none⟩) hs0).trans d0
  have hB := hb0.trans (hb1.mono hb0.size)
  have cc : w.cell? ⟨cb_, 0, none⟩ = some (.int .i64 (nf : Int)) := by simp [World.cell?, hc]
  have cn : W1.cell? ⟨cb_, 0, none⟩ = some (.int .i64 (nf : Int)) := cell_behind hB cc
  have hw1 : IntKind.i64.wrap ((nf : Int) - 1) = (nf : Int) - 1 := by rw [IntKind.wrap_i64]; omega
  have HCON := Lib.hid (fun (V : World) (hV : Below w.heap.size w V) => (contains_num (W := V) (ats := ats) (Aa := Aa) (ca := ca) ((ha.below hV).mono hV.size) hac (fun a => !atomB a) (fun a _ V' hV' => number1_any a.v a.n V')).mono (R' := fun e V' => e = .returned (.bool (ats.any fun a => !atomB a)) ∧ Below w.heap.size w V') fun e V' h => ⟨h.1, hV.trans (h.2.mono hV.size)⟩)
  have HGR := Lib.hid (fun (V : World) (hV : Below w.heap.size w V) => cgroup_any 10 n Aa Ak Al ats.length ca ck nb cb ks V ((hk.below hV).mono hV.size) hkc)
  have HB := Lib.hid hB
  clear hb0 hb1 hB cc hc ha hk
  obtain ⟨out, hout⟩ : ∃ o, numberB nf x 10 n ats ks = o := ⟨_, rfl⟩
  rw [hout]
  have HO := Lib.hid (show out = (varB x && (groupV ks).all varB && ats.all atomB) from hout.symm.trans (by simp [numberB]))
  clear hout
  have HVX := Lib.hid (rfl : varB x = varB x)
  go_enter Try.func59, Try.ntmps59
  go_wp2_with (first | (go_at_call 30; refine (variable_any _ _).mono ?_; rintro en w' ⟨rfl, rfl⟩) | (go_at_call 43; refine (within_any _ _ _ _).mono ?_; rintro en w' ⟨rfl, rfl⟩))
  refine (HGR.out _ HB.out).mono ?_
  rintro en w2 ⟨A, c, rfl, hi, hlc, hb2⟩
  have HR2 := Lib.hid (fun (V : World) (hV : Below w2.heap.size w2 V) => HR.out V (hb2.trans (hV.mono hb2.size)))
  have HW2 := Lib.hid (HB.out.trans (hb2.mono HB.out.size))
  have HK := Lib.hid (fun (j : Nat) (hj : j < (groupV ks).length) => (show ∃ b o, A = some ⟨b, o, none⟩ ∧ w2.cell? ⟨b, o + j, none⟩ = some (.int .i64 (nth (groupV ks) j)) from by
    obtain ⟨b, o, h1, h2, h3⟩ := hi.at_ (by omega)
    exact ⟨b, o, h1, h3 j hj⟩))
  have h64 := hi.1
  have k0 := (HR2.out w2 (Below.refl _ _)).c0
  have k2 := (HR2.out w2 (Below.refl _ _)).c2
  clear hi hb2 HR HGR
  obtain ⟨G, hG⟩ : ∃ G, groupV ks = G := ⟨_, rfl⟩
  rw [hG] at hlc HK h64 HO ⊢
  clear hG
  obtain ⟨M, hM⟩ : ∃ M, G.length = M := ⟨_, rfl⟩
  have HM := Lib.hid hM
  rw [hM] at hlc HK h64 ⊢
  clear hM
  go_wp2_with fail
  go_loopw [6, 20] (fun ov iv wr => ∃ j : Nat, j ≤ M ∧ iv = .int .i64 (j : Int) ∧ ov = .bool (varB x && (G.take j).all varB) ∧ w2 = wr) (fun _ iv _ => M + 1 - (intOf iv).toNat)
  case atStart => exact ⟨0, by omega, rfl, by simp, rfl⟩
  case round =>
    obtain ⟨j, hj, rfl, rfl, rfl⟩ := hrel
    by_cases hlt : j < M
    · obtain ⟨b, o, rfl, qk⟩ := HK.out j hlt
      have e1 : (0 : Int) ≤ (j : Int) := by omega
      have e2 : (j : Int) < (M : Int) := by omega
      have e4 : IntKind.i64.wrap ((j : Int) + 1) = (j : Int) + 1 := by rw [IntKind.wrap_i64]; omega
      have e5 : (M : Int) ≤ (c : Int) := by omega
      have hstep : (varB x && (G.take (j + 1)).all varB) = ((varB x && (G.take j).all varB) && varB (nth G j)) := by
        rw [take_snoc G (by rw [HM.out]; exact hlt)]
        simp only [List.all_append, List.all_cons, List.all_nil, Bool.and_true, Bool.and_assoc]
      have HSTEP := Lib.hid hstep
      clear hstep
      obtain ⟨q, hq⟩ : ∃ q, (varB x && (G.take j).all varB) = q := ⟨_, rfl⟩
      rw [hq] at HSTEP ⊢
      clear hq
      cases q
      all_goals
        go_wp2_with (first | (go_at_call 30; refine (variable_any _ _).mono ?_; rintro en w' ⟨rfl, rfl⟩) | (go_at_call 43; refine (within_any _ _ _ _).mono ?_; rintro en w' ⟨rfl, rfl⟩))
        go_roundw
        case rel => exact ⟨j + 1, by omega, by go_num, by rw [HSTEP.out]; simp, (by first | rfl | trivial)⟩
        case measure => simp [intOf]; omega
    · have e2 : ¬ (j : Int) < (M : Int) := by omega
      have hfin : G.take j = G := List.take_of_length_le (by rw [HM.out]; omega)
      rw [hfin] at *
      obtain ⟨q, hq⟩ : ∃ q, (varB x && G.all varB) = q := ⟨_, rfl⟩
      rw [hq] at HO ⊢
      clear hq hfin
      cases q
      · have HF := Lib.hid (show out = false from HO.out)
        go_wp2_with (first | (go_at_call 30; refine (variable_any _ _).mono ?_; rintro en w' ⟨rfl, rfl⟩) | (go_at_call 43; refine (within_any _ _ _ _).mono ?_; rintro en w' ⟨rfl, rfl⟩))
        go_ret
        exact ⟨ret_bool HF.out.symm, HW2.out⟩
      · have HT := Lib.hid (show out = ats.all atomB from HO.out.trans (by simp))
        go_wp2_with (first | (go_at_call 30; refine (variable_any _ _).mono ?_; rintro en w' ⟨rfl, rfl⟩) | (go_at_call 43; refine (within_any _ _ _ _).mono ?_; rintro en w' ⟨rfl, rfl⟩))
        refine (HCON.out _ (HW2.out)).mono ?_
        rintro en w' ⟨rfl, hb⟩
        have HB2 := Lib.hid hb
        clear hb
        go_wp2_with fail
        go_ret
        exact ⟨ret_bool (by rw [HT.out]; exact all_of_any ats), HB2.out⟩
include hnf hc ha hac hk hkc in
theorem cnumb_any (k : Int) : Calls Try.prog 59 #[.pointer (some ⟨cb_, 0, none⟩), .agg #[.int .i64 x, .int .i64 k, .int .i64 n, .slice Aa ats.length ca, .slice Ak ks.length ck, .slice Al nb cb]] w fun e w' => e = .returned (.bool (numberB nf x k n ats ks)) ∧ Below w.heap.size w w' := by
  by_cases h3 : k = 3
  · subst h3; exact cnum_block hnf x n hc ha hac hk hkc
  by_cases h4 : k = 4
  · subst h4; exact cnum_field hnf x n hc ha hac hk hkc
  by_cases h9 : k = 9
  · subst h9; exact cnum_close hnf x n hc ha hac hk hkc
  by_cases h10 : k = 10
  · subst h10; exact cnum_group hnf x n hc ha hac hk hkc
  exact cnum_other hnf x n hc ha hac hk hkc k ⟨h3, h4, h9, h10⟩
end
end Go.Proofs.Ytnobggabjpcbfaa

/-
  clos: bind.
-/
set_option linter.unusedVariables false
set_option linter.unusedSimpArgs false
namespace Go.Proofs.Ytnobggabjpcbfaa
open Go.RowKit

section
variable {cb_ mb nf : Nat} (hnf : nf ≤ 1000000) (x k n : Int) {Aa Ak Al : Option Addr} {ca ck nb cb : Nat} {ats : List Atm} {ks : List Int} {w : World} (hc : w.heap[cb_]? = some (.cells #[.int .i64 (nf : Int), .map (some mb)] 71 (0, 0))) (ha : AtomsIn w.heap.size w Aa ats) (hac : ats.length ≤ ca) (hk : IntsIn w.heap.size w Ak ks) (hkc : ks.length ≤ ck)
set_option maxRecDepth 100000 in
set_option maxHeartbeats 4000000 in
include hnf hc ha hac hk hkc in
theorem cbind_any : Calls Try.prog 44 #[.pointer (some ⟨cb_, 0, none⟩), .agg #[.int .i64 x, .int .i64 k, .int .i64 n, .slice Aa ats.length ca, .slice Ak ks.length ck, .slice Al nb cb]] w fun e w' => e = .returned (.int .i64 (bindE nf x k n ats ks nb)) ∧ Below w.heap.size w w' := by
  obtain ⟨W0, hW0⟩ : ∃ W0, w.alloc (.cells #[.int .i64 x, .int .i64 k, .int .i64 n, .slice Aa ats.length ca, .slice Ak ks.length ck, .slice Al nb cb] 54) = W0 := ⟨_, rfl⟩
  have hb0 : Below w.heap.size w W0 := by rw [← hW0]; exact (Below.refl _ _).alloc (Nat.le_refl _) _
  have hs0 : w.heap.size < W0.heap.size := by rw [← hW0]; simp
  obtain ⟨W1, hW1⟩ : ∃ W1, W0.alloc (.cells #[.int .i64 k, .int .i64 n, .slice Aa ats.length ca, .slice Ak ks.length ck, .slice Al nb cb] 52) = W1 := ⟨_, rfl⟩
  have hb1 : Below W0.heap.size W0 W1 := by rw [← hW1]; exact (Below.refl _ _).alloc (Nat.le_refl _) _
  have d0 : W0.cell? ⟨w.heap.size, 0, none⟩ = some (.int .i64 x) := by rw [← hW0, World.cell?_alloc_at _ _ _ _ rfl]; rfl
  have d1 : W0.cell? ⟨w.heap.size, 1, none⟩ = some (.int .i64 k) := by rw [← hW0, World.cell?_alloc_at _ _ _ _ rfl]; rfl
  have d2 : W0.cell? ⟨w.heap.size, 2, none⟩ = some (.int .i64 n) := by rw [← hW0, World.cell?_alloc_at _ _ _ _ rfl]; rfl
  have d3 : W0.cell? ⟨w.heap.size, 3, none⟩ = some (.slice Aa ats.length ca) := by rw [← hW0, World.cell?_alloc_at _ _ _ _ rfl]; rfl
  have d4 : W0.cell? ⟨w.heap.size, 4, none⟩ = some (.slice Ak ks.length ck) := by rw [← hW0, World.cell?_alloc_at _ _ _ _ rfl]; rfl
  have d5 : W0.cell? ⟨w.heap.size, 5, none⟩ = some (.slice Al nb cb) := by rw [← hW0, World.cell?_alloc_at _ _ _ _ rfl]; rfl
  have hR : RhsAt W0 W1 W0.heap.size k n Aa Ak Al ats.length ca ks.length ck nb cb := by rw [← hW1]; exact RhsAt.new _ _ _ _ _ _ _ _ _ _ _ _
  have HR := Lib.hid (fun (V : World) (hV : Below W1.heap.size W1 V) => (show (V.cell? ⟨W0.heap.size, 0, none⟩ = some (.int .i64 k) ∧ V.cell? ⟨W0.heap.size, 1, none⟩ = some (.int .i64 n) ∧ V.cell? ⟨W0.heap.size, 2, none⟩ = some (.slice Aa ats.length ca) ∧ V.cell? ⟨W0.heap.size, 3, none⟩ = some (.slice Ak ks.length ck) ∧ V.cell? ⟨W0.heap.size, 4, none⟩ = some (.slice Al nb cb)) ∧
      (V.cell? ⟨w.heap.size, 0, none⟩ = some (.int .i64 x) ∧ V.cell? ⟨w.heap.size, 1, none⟩ = some (.int .i64 k) ∧ V.cell? ⟨w.heap.size, 2, none⟩ = some (.int .i64 n) ∧ V.cell? ⟨w.heap.size, 3, none⟩ = some (.slice Aa ats.length ca) ∧ V.cell? ⟨w.heap.size, 4, none⟩ = some (.slice Ak ks.length ck) ∧ V.cell? ⟨w.heap.size, 5, none⟩ = some (.slice Al nb cb)) from by
    have h := hR.behind hV
    have hb := hb1.trans (hV.mono hb1.size)
    exact ⟨⟨h.c0, h.c1, h.c2, h.c3, h.c4⟩, (hb.cell (p := ⟨w.heap.size, 0, none⟩) hs0).trans d0, (hb.cell (p := ⟨w.heap.size, 1, none⟩) hs0).trans d1, (hb.cell (p := ⟨w.heap.size, 2, none⟩) hs0).trans d2, (hb.cell (p := ⟨w.heap.size, 3, none⟩) hs0).trans d3, (hb.cell (p := ⟨w.heap.size, 4, none⟩) hs0).trans d4, (hb.cell (p := ⟨w.heap.size, 5, none⟩) hs0).trans d5⟩))
  have hB := hb0.trans (hb1.mono hb0.size)
  have hw2 : ∀ V : World, Below W1.heap.size W1 V → Below w.heap.size w V := fun V hV => hB.trans (hV.mono hB.size)
  have HW := Lib.hid hw2
  have hcV : ∀ V : World, Below w.heap.size w V → V.heap[cb_]? = some (.cells #[.int .i64 (nf : Int), .map (some mb)] 71 (0, 0)) := fun V hV => (hV.block cb_ (Array.getElem?_eq_some_iff.1 hc).1).trans hc
  have HBA := Lib.hid (fun (V : World) => bare_any k n Aa Ak Al ats.length ca ks.length ck nb cb V)
  have HNU := Lib.hid (fun (V : World) (hV : Below W1.heap.size W1 V) => cnumb_any hnf x n (Al := Al) (nb := nb) (cb := cb) (hcV V (hw2 V hV)) ((ha.below (hw2 V hV)).mono (hw2 V hV).size) hac ((hk.below (hw2 V hV)).mono (hw2 V hV).size) hkc k)
  have HCO := Lib.hid (fun (V : World) (hV : Below W1.heap.size W1 V) => count_any x n Aa Ak Al ats.length ca ck nb cb ks V k ((hk.below (hw2 V hV)).mono (hw2 V hV).size) hkc)
  have HFU := Lib.hid (fun (V : World) (hV : Below W1.heap.size W1 V) => functions_any hnf k n Aa Ak Al ats.length ca ck nb cb ks V (hcV V (hw2 V hV)) ((hk.below (hw2 V hV)).mono (hw2 V hV).size) hkc)
  have HRI := Lib.hid (fun (V : World) (hV : Below W1.heap.size W1 V) => rising_any Ak ck ks V ((hk.below (hw2 V hV)).mono (hw2 V hV).size) hkc)
  obtain ⟨⟨c0, c1, c2, c3, c4⟩, -⟩ := HR.out W1 (Below.refl _ _)
  clear hb0 hb1 hB hc ha hk hcV hw2 hR
  obtain ⟨out, hout⟩ : ∃ o, bindE nf x k n ats ks nb = o := ⟨_, rfl⟩
  rw [hout]
  have HO := Lib.hid (show out = (if bareB k n ats.length ks.length nb = false then 29 else if numberB nf x k n ats ks = false then 2 else if k = 2 ∧ inB n 1 16 = false then 28 else if countB x k n ats.length ks nb = false then 19 else if k = 10 ∧ funsB nf ks = false then 2 else if k = 8 ∧ risingB ks = false then 3 else 0) from hout.symm)
  clear hout
  go_enter Try.func44, Try.ntmps44
  go_wp2_with fail
  refine (HBA.out W1).mono ?_
  rintro en w2 ⟨rfl, hb2⟩
  obtain ⟨⟨p0, p1, p2, p3, p4⟩, p5, p6, p7, p8, p9, p10⟩ := HR.out w2 hb2
  have HN2 := Lib.hid (HNU.out w2 hb2)
  have HB2 := Lib.hid hb2
  clear hb2 HNU HBA
  cases h1 : bareB k n ats.length ks.length nb
  · have HF := Lib.hid (show out = 29 from HO.out.trans (by rw [if_pos h1]))
    go_wp2_with fail
    go_ret
    exact ⟨ret_int HF.out.symm, HW.out _ HB2.out⟩
  have ho2 := HO.out
  rw [if_neg (by rw [h1]; decide)] at ho2
  have HO2 := Lib.hid ho2
  clear ho2 h1 HO
  go_wp2_with fail
  refine HN2.out.mono ?_
  rintro en w3 ⟨rfl, hb3⟩
  have hb3' := HB2.out.trans (hb3.mono HB2.out.size)
  obtain ⟨⟨q0, q1, q2, q3, q4⟩, q5, q6, q7, q8, q9, q10⟩ := HR.out w3 hb3'
  have HC3 := Lib.hid (HCO.out w3 hb3')
  have HB3 := Lib.hid hb3'
  clear hb3 hb3' HN2 HB2 HCO p0 p1 p2 p3 p4 p5 p6 p7 p8 p9 p10
  cases h1 : numberB nf x k n ats ks
  · have HF := Lib.hid (show out = 2 from HO2.out.trans (by rw [if_pos h1]))
    go_wp2_with fail
    go_ret
    exact ⟨ret_int HF.out.symm, HW.out _ HB3.out⟩
  have ho3 := HO2.out
  rw [if_neg (by rw [h1]; decide)] at ho3
  have HO3 := Lib.hid ho3
  clear ho3 h1 HO2
  by_cases hbad : k = 2 ∧ inB n 1 16 = false
  · have HF := Lib.hid (show out = 28 from HO3.out.trans (by rw [if_pos hbad]))
    obtain ⟨hk2, hin⟩ := hbad
    have e2 : (k == 2) = true := by simpa using hk2
    clear hk2
    go_wp2_with (go_at_call 43; refine (within_any _ _ _ _).mono ?_; rintro en w' ⟨rfl, rfl⟩)
    go_ret
    exact ⟨ret_int HF.out.symm, HW.out _ HB3.out⟩
  have ho4 := HO3.out
  rw [if_neg hbad] at ho4
  have HO4 := Lib.hid ho4
  clear ho4 HO3
  have hcase : (k == 2) = false ∨ ((k == 2) = true ∧ inB n 1 16 = true) := by
    by_cases hk2 : k = 2
    · right
      refine ⟨by simpa using hk2, ?_⟩
      cases h : inB n 1 16
      · exact absurd ⟨hk2, h⟩ hbad
      · rfl
    · left; simpa using hk2
  clear hbad
  rcases hcase with e2 | ⟨e2, hin⟩
  · go_wp2_with fail
    refine HC3.out.mono ?_
    rintro en w4 ⟨rfl, hb4⟩
    have hb4' := HB3.out.trans (hb4.mono HB3.out.size)
    obtain ⟨⟨r0, r1, r2, r3, r4⟩, r5, r6, r7, r8, r9, r10⟩ := HR.out w4 hb4'
    have HFU4 := Lib.hid (HFU.out w4 hb4')
    have HRI4 := Lib.hid (HRI.out w4 hb4')
    have HB4 := Lib.hid hb4'
    clear hb4 hb4' HC3 HB3 HFU q0 q1 q2 q3 q4 q5 q6 q7 q8 q9 q10 e2
    cases h1 : countB x k n ats.length ks nb
    · have HF := Lib.hid (show out = 19 from HO4.out.trans (by rw [if_pos h1]))
      go_wp2_with fail
      go_ret
      exact ⟨ret_int HF.out.symm, HW.out _ HB4.out⟩
    have ho5 := HO4.out
    rw [if_neg (by rw [h1]; decide)] at ho5
    have HO5 := Lib.hid ho5
    clear ho5 h1 HO4
    cases e10 : (k == 10)
    · have hk10 : ¬ (k = 10 ∧ funsB nf ks = false) := by simp at e10; exact fun h => e10 h.1
      have ho6 := HO5.out
      rw [if_neg hk10] at ho6
      have HO6 := Lib.hid ho6
      clear ho6 hk10 HO5
      cases e8 : (k == 8)
      · have HF := Lib.hid (show out = 0 from HO6.out.trans (by simp at e8; rw [if_neg (fun h => e8 h.1)]))
        go_wp2_with fail
        go_ret
        exact ⟨ret_int HF.out.symm, HW.out _ HB4.out⟩
      · cases hri : risingB ks
        · have HF := Lib.hid (show out = 3 from HO6.out.trans (by simp at e8; rw [if_pos ⟨e8, hri⟩]))
          rw [hri] at HRI4
          go_wp2_with (go_at_call 62; refine HRI4.out.mono ?_; rintro en w' ⟨rfl, rfl⟩)
          go_ret
          exact ⟨ret_int HF.out.symm, HW.out _ HB4.out⟩
        · have HF := Lib.hid (show out = 0 from HO6.out.trans (by rw [if_neg (fun h => by rw [hri] at h; exact absurd h.2 (by decide))]))
          rw [hri] at HRI4
          go_wp2_with (go_at_call 62; refine HRI4.out.mono ?_; rintro en w' ⟨rfl, rfl⟩)
          go_ret
          exact ⟨ret_int HF.out.symm, HW.out _ HB4.out⟩
    · have e8 : (k == 8) = false := by simp at e10 ⊢; omega
      cases hfu : funsB nf ks
      · have HF := Lib.hid (show out = 2 from HO5.out.trans (by simp at e10; rw [if_pos ⟨e10, hfu⟩]))
        rw [hfu] at HFU4
        go_wp2_with (go_at_call 61; refine HFU4.out.mono ?_; rintro en w5 ⟨rfl, hb5⟩)
        go_ret
        exact ⟨ret_int HF.out.symm, HW.out _ (HB4.out.trans (hb5.mono HB4.out.size))⟩
      · have HF := Lib.hid (show out = 0 from HO5.out.trans (by simp at e10; rw [if_neg (fun h => by rw [hfu] at h; exact absurd h.2 (by decide)), if_neg (by omega)]))
        rw [hfu] at HFU4
        have HR5 := Lib.hid (fun (V : World) (hV : Below w4.heap.size w4 V) => (HR.out V (HB4.out.trans (hV.mono HB4.out.size))).1.1)
        go_wp2_with (go_at_call 61; refine HFU4.out.mono ?_; rintro en w5 ⟨rfl, hb5⟩; have s0 := HR5.out w5 hb5)
        go_ret
        exact ⟨ret_int HF.out.symm, HW.out _ (HB4.out.trans (hb5.mono HB4.out.size))⟩
  · go_wp2_with (go_at_call 43; refine (within_any _ _ _ _).mono ?_; rintro en w' ⟨rfl, rfl⟩)
    refine HC3.out.mono ?_
    rintro en w4 ⟨rfl, hb4⟩
    have hb4' := HB3.out.trans (hb4.mono HB3.out.size)
    obtain ⟨⟨r0, r1, r2, r3, r4⟩, r5, r6, r7, r8, r9, r10⟩ := HR.out w4 hb4'
    have HFU4 := Lib.hid (HFU.out w4 hb4')
    have HRI4 := Lib.hid (HRI.out w4 hb4')
    have HB4 := Lib.hid hb4'
    clear hb4 hb4' HC3 HB3 HFU q0 q1 q2 q3 q4 q5 q6 q7 q8 q9 q10 e2 hin
    cases h1 : countB x k n ats.length ks nb
    · have HF := Lib.hid (show out = 19 from HO4.out.trans (by rw [if_pos h1]))
      go_wp2_with fail
      go_ret
      exact ⟨ret_int HF.out.symm, HW.out _ HB4.out⟩
    have ho5 := HO4.out
    rw [if_neg (by rw [h1]; decide)] at ho5
    have HO5 := Lib.hid ho5
    clear ho5 h1 HO4
    cases e10 : (k == 10)
    · have hk10 : ¬ (k = 10 ∧ funsB nf ks = false) := by simp at e10; exact fun h => e10 h.1
      have ho6 := HO5.out
      rw [if_neg hk10] at ho6
      have HO6 := Lib.hid ho6
      clear ho6 hk10 HO5
      cases e8 : (k == 8)
      · have HF := Lib.hid (show out = 0 from HO6.out.trans (by simp at e8; rw [if_neg (fun h => e8 h.1)]))
        go_wp2_with fail
        go_ret
        exact ⟨ret_int HF.out.symm, HW.out _ HB4.out⟩
      · cases hri : risingB ks
        · have HF := Lib.hid (show out = 3 from HO6.out.trans (by simp at e8; rw [if_pos ⟨e8, hri⟩]))
          rw [hri] at HRI4
          go_wp2_with (go_at_call 62; refine HRI4.out.mono ?_; rintro en w' ⟨rfl, rfl⟩)
          go_ret
          exact ⟨ret_int HF.out.symm, HW.out _ HB4.out⟩
        · have HF := Lib.hid (show out = 0 from HO6.out.trans (by rw [if_neg (fun h => by rw [hri] at h; exact absurd h.2 (by decide))]))
          rw [hri] at HRI4
          go_wp2_with (go_at_call 62; refine HRI4.out.mono ?_; rintro en w' ⟨rfl, rfl⟩)
          go_ret
          exact ⟨ret_int HF.out.symm, HW.out _ HB4.out⟩
    · have e8 : (k == 8) = false := by simp at e10 ⊢; omega
      cases hfu : funsB nf ks
      · have HF := Lib.hid (show out = 2 from HO5.out.trans (by simp at e10; rw [if_pos ⟨e10, hfu⟩]))
        rw [hfu] at HFU4
        go_wp2_with (go_at_call 61; refine HFU4.out.mono ?_; rintro en w5 ⟨rfl, hb5⟩)
        go_ret
        exact ⟨ret_int HF.out.symm, HW.out _ (HB4.out.trans (hb5.mono HB4.out.size))⟩
      · have HF := Lib.hid (show out = 0 from HO5.out.trans (by simp at e10; rw [if_neg (fun h => by rw [hfu] at h; exact absurd h.2 (by decide)), if_neg (by omega)]))
        rw [hfu] at HFU4
        have HR5 := Lib.hid (fun (V : World) (hV : Below w4.heap.size w4 V) => (HR.out V (HB4.out.trans (hV.mono HB4.out.size))).1.1)
        go_wp2_with (go_at_call 61; refine HFU4.out.mono ?_; rintro en w5 ⟨rfl, hb5⟩; have s0 := HR5.out w5 hb5)
        go_ret
        exact ⟨ret_int HF.out.symm, HW.out _ (HB4.out.trans (hb5.mono HB4.out.size))⟩
end
end Go.Proofs.Ytnobggabjpcbfaa

/-
  clos: the map of what is known.
-/
set_option linter.unusedVariables false
set_option linter.unusedSimpArgs false
namespace Go.Proofs.Ytnobggabjpcbfaa
open Go.RowKit Go.Maps

theorem undInt : Try.prog.underlying 3 = some (.int .i64) := by kernel_rfl
theorem undMap : Try.prog.underlying 69 = some (.map 3 3) := by kernel_rfl
theorem lawInt : Keyed Try.prog 3 := int_keyed undInt
theorem zeroInt (w : World) : (zeroValue 3).run Try.prog w = .ok (.int .i64 0) w := by kernel_rfl
def In64 (n : Int) : Prop := (Lit.int .i64 n).wf = true
theorem in64_small {n : Int} (h1 : -1000000000000000000 ≤ n) (h2 : n ≤ 1000000000000000000) : In64 n := WalkArith.wf_i64 (by omega)
/-- what is known, in memory: the checker at block cb_, its map at block mb, of at most n entries -/
structure KnownIn (cb_ mb nf n : Nat) (kn : List Int) (W : World) : Prop where
  chk : W.heap[cb_]? = some (.cells #[.int .i64 (nf : Int), .map (some mb)] 71 (0, 0))
  ne : cb_ ≠ mb
  map : ∃ D : DataW Unit, W.ownsMap Try.prog 3 (plainElem Try.prog 3) mb n D ∧ ∀ v, In64 v → D.atKey (.int .i64 v) (.lit (.int .i64 0)) = .lit (.int .i64 (kn.count v : Int))
section
variable {cb_ mb nf n : Nat} {kn : List Int} {W V : World}
theorem KnownIn.mono (h : KnownIn cb_ mb nf n kn W) {n' : Nat} (hn : n ≤ n') : KnownIn cb_ mb nf n' kn W := ⟨h.chk, h.ne, by obtain ⟨D, h1, h2⟩ := h.map; exact ⟨D, h1.mono hn, h2⟩⟩
theorem KnownIn.count (h : KnownIn cb_ mb nf n kn W) {kn' : List Int} (hk : ∀ v, kn'.count v = kn.count v) : KnownIn cb_ mb nf n kn' W := ⟨h.chk, h.ne, by obtain ⟨D, h1, h2⟩ := h.map; exact ⟨D, h1, fun v hv => by rw [h2 v hv, hk v]⟩⟩
theorem KnownIn.lt (h : KnownIn cb_ mb nf n kn W) : cb_ < W.heap.size ∧ mb < W.heap.size := ⟨(Array.getElem?_eq_some_iff.1 h.chk).1, by obtain ⟨D, h1, _⟩ := h.map; exact h1.lt⟩
theorem KnownIn.below (h : KnownIn cb_ mb nf n kn W) (hb : Below W.heap.size W V) : KnownIn cb_ mb nf n kn V := by
  refine ⟨(hb.block cb_ h.lt.1).trans h.chk, h.ne, ?_⟩
  obtain ⟨D, h1, h2⟩ := h.map
  exact ⟨D, h1.kept (row := none) ⟨hb.os, hb.tape, hb.output, hb.size, fun i hi _ => hb.block i hi⟩ (by simp), h2⟩
/-- only the map may have turned -/
def Turned (mb : Nat) (W V : World) : Prop := W.grownBy V (some mb)
theorem Turned.refl (mb : Nat) (W : World) : Turned mb W W := ⟨rfl, rfl, rfl, Nat.le_refl _, fun _ _ _ => rfl⟩
theorem Turned.trans {a b c : World} (h : Turned mb a b) (k : Turned mb b c) : Turned mb a c := ⟨k.os.trans h.os, k.tape.trans h.tape, k.output.trans h.output, Nat.le_trans h.size k.size, fun i hi hn => (k.block i (Nat.lt_of_lt_of_le hi h.size) hn).trans (h.block i hi hn)⟩
theorem Turned.of_below {a b : World} (h : Below a.heap.size a b) : Turned mb a b := ⟨h.os, h.tape, h.output, h.size, fun i hi _ => h.block i hi⟩
/-- what lies below the map stays -/
theorem Turned.below {a b : World} (h : Turned mb a b) {B : Nat} (hB : B ≤ mb) (hB2 : B ≤ a.heap.size) : Below B a b := ⟨h.os, h.tape, h.output, h.size, fun i hi => h.block i (by omega) (by simp; omega)⟩
theorem Turned.cell {a b : World} (h : Turned mb a b) {q o : Nat} (hq : q ≠ mb) {v : Value} (hc : a.cell? ⟨q, o, none⟩ = some v) : b.cell? ⟨q, o, none⟩ = some v :=
  (World.cell?_of_block (w := a) (h.block q (World.block_lt_of_cell? _ _ hc) (by simp; omega))).trans hc

/-! ### asks -/
theorem casks_int (m : Int) : Calls Try.prog 48 #[.pointer (some ⟨cb_, 0, none⟩), .agg #[.bool false, .int .i64 m]] W fun e w' => e = .returned (.bool (asksB kn ⟨false, m⟩)) ∧ Below W.heap.size W w' := by
  have hb := below_alloc (Below.refl W.heap.size W) (.cells #[.bool false, .int .i64 m] 25)
  have HB := Lib.hid hb
  clear hb
  go_enter Try.func48, Try.ntmps48
  go_wp2_with fail
  go_quiet (fail)
  go_wp2_with fail
  go_ret
  exact ⟨ret_bool (by simp [asksB]), below_drewN HB.out _⟩
set_option maxHeartbeats 1000000 in
theorem casks_var (h : KnownIn cb_ mb nf n kn W) {m : Int} (hm : In64 m) : Calls Try.prog 48 #[.pointer (some ⟨cb_, 0, none⟩), .agg #[.bool true, .int .i64 m]] W fun e w' => e = .returned (.bool (asksB kn ⟨true, m⟩)) ∧ Below W.heap.size W w' := by
  obtain ⟨W0, hW0⟩ : ∃ W0, W.alloc (.cells #[.bool true, .int .i64 m] 25) = W0 := ⟨_, rfl⟩
  have hb0 : Below W.heap.size W W0 := by rw [← hW0]; exact (Below.refl _ _).alloc (Nat.le_refl _) _
  have c0 : W0.cell? ⟨W.heap.size, 0, none⟩ = some (.bool true) := by rw [← hW0, World.cell?_alloc_at _ _ _ _ rfl]; rfl
  have c1 : W0.cell? ⟨W.heap.size, 1, none⟩ = some (.int .i64 m) := by rw [← hW0, World.cell?_alloc_at _ _ _ _ rfl]; rfl
  have h0 := h.below hb0
  have q1 : W0.cell? ⟨cb_, 1, none⟩ = some (.map (some mb)) := by simp [World.cell?, h0.chk]
  obtain ⟨D, h1, h2⟩ := h0.map
  obtain ⟨c, -, hat, -⟩ := h1.lookup_int lawInt undMap undInt (zeroInt _) (keyOf_int_mk undInt hm)
  have hce : c = (kn.count m : Int) := by
    have := hat.symm.trans (h2 m hm)
    simpa using this
  have hl : ∀ V : World, V.heap[mb]? = W0.heap[mb]? → (Instr.lookup 69 (.map (some mb)) (.int .i64 m) false).run Try.prog V = .ok (.int .i64 (kn.count m : Int)) V := fun V hV => by
    have h1V : V.ownsMap Try.prog 3 (plainElem Try.prog 3) mb n D := by
      obtain ⟨es, clock, e1, e2⟩ := h1
      exact ⟨es, clock, hV.trans e1, e2⟩
    obtain ⟨c', hrun, hat', -⟩ := h1V.lookup_int lawInt undMap undInt (zeroInt _) (keyOf_int_mk undInt hm)
    have : c' = c := by
      have := hat'.symm.trans hat
      simpa using this
    rw [this, hce] at hrun
    exact hrun
  have hl0 := hl W0 rfl
  have hln := fun k => hl (W0.drewN k) rfl
  have hld := hl W0.drew rfl
  have HB := Lib.hid hb0
  clear h h0 h1 h2 hat hce hb0 hl
  go_enter Try.func48, Try.ntmps48
  go_wp2_with fail
  go_quiet (fail)
  go_wp2_with fail
  go_ret
  exact ⟨ret_bool (by simp [asksB, List.count_pos_iff]), below_drewN HB.out _⟩
theorem casks_any (h : KnownIn cb_ mb nf n kn W) (a : Atm) (hm : In64 a.n) : Calls Try.prog 48 #[.pointer (some ⟨cb_, 0, none⟩), .agg #[.bool a.v, .int .i64 a.n]] W fun e w' => e = .returned (.bool (asksB kn a)) ∧ Below W.heap.size W w' := by
  obtain ⟨v, m⟩ := a
  cases v
  · exact casks_int m
  · exact casks_var h hm
end
end Go.Proofs.Ytnobggabjpcbfaa
