/-
 3 texts of this seat in one: D1 D2 D3.
-/
import Derived.StillTailTactics
import Derived.Test.YtnobggabjpcbfaaGreatQI5
set_option maxRecDepth 100000
set_option maxHeartbeats 16000000
set_option linter.unusedVariables false
set_option linter.unusedSimpArgs false
namespace Go.Proofs.YtnobggabjpcbfaaGreat
open Go.RowKit
theorem within_any (n a b : Int) (w : World) :
 Calls Tryz.prog 53 #[.int .i64 n, .int .i64 a, .int .i64 b] w fun e w' => e = .returned (.bool (inB n a b)) ∧ w = w' := by
 by_cases h : a ≤ n
 all_goals
  go_enter Tryz.func53, Tryz.ntmps53
  go_wp2
  go_ret
  exact ⟨ret_bool (by simp [inB]; omega), rfl⟩
theorem within_q (n a b : Int) (w : World) :
 Calls Tryz.prog 53 #[.int .i64 n, .int .i64 a, .int .i64 b] w fun e w' => e = .returned (.bool (inB n a b)) ∧ w' = w := (within_any n a b w).mono fun _ _ h => ⟨h.1, h.2.symm⟩
theorem variable_any (n : Int) (w : World) :
 Calls Tryz.prog 34 #[.int .i64 n] w fun e w' => e = .returned (.bool (varB n)) ∧ w = w' := by
 go_enter Tryz.func34, Tryz.ntmps34
 go_wp2_with (go_at_call 53; refine (within_any _ _ _ _).mono ?_; rintro e w' ⟨rfl, rfl⟩)
 go_ret
 exact ⟨rfl, rfl⟩
theorem catom_any (v : Bool) (n : Int) (w : World) :
 Calls Tryz.prog 59 #[.agg #[.bool v, .int .i64 n]] w fun e w' => e = .returned (.bool (atomB ⟨v, n⟩)) ∧ Below w.heap.size w w' := by
 have hb := below_alloc (Below.refl w.heap.size w) (.cells #[.bool v, .int .i64 n] 25)
 cases v
 all_goals
  go_enter Tryz.func59, Tryz.ntmps59
  go_wp2_with (go_at_call 53; refine (within_any _ _ _ _).mono ?_; rintro e w' ⟨rfl, rfl⟩)
  go_ret
  exact ⟨ret_bool (by simp [atomB]), hb⟩
theorem has_any (k : Int) (w : World) :
 Calls Tryz.prog 92 #[.int .i64 k] w fun e w' => e = .returned (.tuple #[.bool (hasN k), .bool (hasA k), .bool (hasK k), .bool (hasB k), .bool (hasA k)]) ∧ w = w' := by
 by_cases h : k = 1 ∨ k = 6 ∨ k = 2 ∨ k = 3 ∨ k = 4 ∨ k = 9 ∨ k = 8 ∨ k = 10
 · rcases h with rfl | rfl | rfl | rfl | rfl | rfl | rfl | rfl
   all_goals
    go_enter Tryz.func92, Tryz.ntmps92
    go_wp2
    refine bodyPost_ret (v := .tuple #[.bool _, .bool _, .bool _, .bool _, .bool _]) (by simp [results, Tryz.results92, go_sem]; decide) rfl ⟨rfl, rfl⟩
 · have e1 : (k == 1) = false := by simp; omega
   have e2 : (k == 2) = false := by simp; omega
   have e3 : (k == 3) = false := by simp; omega
   have e4 : (k == 4) = false := by simp; omega
   have e6 : (k == 6) = false := by simp; omega
   have e8 : (k == 8) = false := by simp; omega
   have e9 : (k == 9) = false := by simp; omega
   have e10 : (k == 10) = false := by simp; omega
   go_enter Tryz.func92, Tryz.ntmps92
   go_wp2
   refine bodyPost_ret (v := .tuple #[.bool false, .bool false, .bool false, .bool false, .bool false]) (by simp [results, Tryz.results92, go_sem]) rfl ⟨?_, rfl⟩
   simp [hasN, hasA, hasK, hasB, e1, e2, e3, e4, e6, e8, e9, e10]
theorem has_combo (k : Int) : hasA k = false ∨ (hasA k = true ∧ ((hasN k = false ∧ hasK k = false ∧ hasB k = false) ∨ (hasN k = true ∧ hasK k = false ∧ hasB k = false) ∨ (hasN k = false ∧ hasK k = true ∧ hasB k = true) ∨ (hasN k = false ∧ hasK k = true ∧ hasB k = false))) := by
 by_cases h : k = 1 ∨ k = 6 ∨ k = 2 ∨ k = 3 ∨ k = 4 ∨ k = 9 ∨ k = 8 ∨ k = 10
 · rcases h with rfl | rfl | rfl | rfl | rfl | rfl | rfl | rfl <;> decide
 · left
   simp [hasA]; omega
theorem bare_any (k n : Int) (Aa Ak Al : Option Addr) (na ca nk ck nb cb : Nat) (w : World) :
 Calls Tryz.prog 76 #[.agg #[.int .i64 k, .int .i64 n, .slice Aa na ca, .slice Ak nk ck, .slice Al nb cb]] w fun e w' => e = .returned (.bool (bareB k n na nk nb)) ∧ Below w.heap.size w w' := by
 obtain ⟨W0, hW0⟩ : ∃ W0, w.alloc (.cells #[.int .i64 k, .int .i64 n, .slice Aa na ca, .slice Ak nk ck, .slice Al nb cb] 60) = W0 := ⟨_, rfl⟩
 have hb0 : Below w.heap.size w W0 := by rw [← hW0]; exact (Below.refl _ _).alloc (Nat.le_refl _) _
 have c0 : W0.cell? ⟨w.heap.size, 0, none⟩ = some (.int .i64 k) := by rw [← hW0, World.cell?_alloc_at _ _ _ _ rfl]; rfl
 have c1 : W0.cell? ⟨w.heap.size, 1, none⟩ = some (.int .i64 n) := by rw [← hW0, World.cell?_alloc_at _ _ _ _ rfl]; rfl
 have c2 : W0.cell? ⟨w.heap.size, 2, none⟩ = some (.slice Aa na ca) := by rw [← hW0, World.cell?_alloc_at _ _ _ _ rfl]; rfl
 have c3 : W0.cell? ⟨w.heap.size, 3, none⟩ = some (.slice Ak nk ck) := by rw [← hW0, World.cell?_alloc_at _ _ _ _ rfl]; rfl
 have c4 : W0.cell? ⟨w.heap.size, 4, none⟩ = some (.slice Al nb cb) := by rw [← hW0, World.cell?_alloc_at _ _ _ _ rfl]; rfl
 have HB := Lib.hid hb0
 clear hb0
 have x2 : ((nk : Int) == 0) = (nk == 0) := by rw [Bool.eq_iff_iff]; simp
 have x3 : ((nb : Int) == 0) = (nb == 0) := by rw [Bool.eq_iff_iff]; simp
 obtain ⟨out, hout⟩ : ∃ o, bareB k n na nk nb = o := ⟨_, rfl⟩
 rw [hout]
 have HO := Lib.hid (show out = (hasA k && (hasN k || n == 0) && (hasA k || na == 0) && (hasK k || (nk : Int) == 0) && (hasB k || (nb : Int) == 0)) from by rw [x2, x3]; exact hout.symm)
 clear hout x2 x3
 have HH := Lib.hid (has_any k W0)
 have hc := has_combo k
 generalize hasA k = b1 at *
 generalize hasN k = b2 at *
 generalize hasK k = b3 at *
 generalize hasB k = b4 at *
 rcases hc with rfl | ⟨rfl, ⟨rfl, rfl, rfl⟩ | ⟨rfl, rfl, rfl⟩ | ⟨rfl, rfl, rfl⟩ | ⟨rfl, rfl, rfl⟩⟩
 · go_enter Tryz.func76, Tryz.ntmps76
   go_wp2_with (go_at_call 92; refine HH.out.mono ?_; rintro en w' ⟨rfl, rfl⟩)
   go_ret
   exact ⟨ret_bool (HO.out.symm ▸ (by simp [])), HB.out⟩
 · cases e1 : (n == 0)
   · go_enter Tryz.func76, Tryz.ntmps76
     go_wp2_with (go_at_call 92; refine HH.out.mono ?_; rintro en w' ⟨rfl, rfl⟩)
     go_ret
     exact ⟨ret_bool (HO.out.symm ▸ (by simp [e1])), HB.out⟩
   · cases e2 : ((nk : Int) == 0)
     · go_enter Tryz.func76, Tryz.ntmps76
       go_wp2_with (go_at_call 92; refine HH.out.mono ?_; rintro en w' ⟨rfl, rfl⟩)
       go_ret
       exact ⟨ret_bool (HO.out.symm ▸ (by simp [e1, e2])), HB.out⟩
     · cases e3 : ((nb : Int) == 0)
       · go_enter Tryz.func76, Tryz.ntmps76
         go_wp2_with (go_at_call 92; refine HH.out.mono ?_; rintro en w' ⟨rfl, rfl⟩)
         go_ret
         exact ⟨ret_bool (HO.out.symm ▸ (by simp [e1, e2, e3])), HB.out⟩
       · go_enter Tryz.func76, Tryz.ntmps76
         go_wp2_with (go_at_call 92; refine HH.out.mono ?_; rintro en w' ⟨rfl, rfl⟩)
         go_ret
         exact ⟨ret_bool (HO.out.symm ▸ (by simp [e1, e2, e3])), HB.out⟩
 · cases e2 : ((nk : Int) == 0)
   · go_enter Tryz.func76, Tryz.ntmps76
     go_wp2_with (go_at_call 92; refine HH.out.mono ?_; rintro en w' ⟨rfl, rfl⟩)
     go_ret
     exact ⟨ret_bool (HO.out.symm ▸ (by simp [e2])), HB.out⟩
   · cases e3 : ((nb : Int) == 0)
     · go_enter Tryz.func76, Tryz.ntmps76
       go_wp2_with (go_at_call 92; refine HH.out.mono ?_; rintro en w' ⟨rfl, rfl⟩)
       go_ret
       exact ⟨ret_bool (HO.out.symm ▸ (by simp [e2, e3])), HB.out⟩
     · go_enter Tryz.func76, Tryz.ntmps76
       go_wp2_with (go_at_call 92; refine HH.out.mono ?_; rintro en w' ⟨rfl, rfl⟩)
       go_ret
       exact ⟨ret_bool (HO.out.symm ▸ (by simp [e2, e3])), HB.out⟩
 · cases e1 : (n == 0)
   · go_enter Tryz.func76, Tryz.ntmps76
     go_wp2_with (go_at_call 92; refine HH.out.mono ?_; rintro en w' ⟨rfl, rfl⟩)
     go_ret
     exact ⟨ret_bool (HO.out.symm ▸ (by simp [e1])), HB.out⟩
   · go_enter Tryz.func76, Tryz.ntmps76
     go_wp2_with (go_at_call 92; refine HH.out.mono ?_; rintro en w' ⟨rfl, rfl⟩)
     go_ret
     exact ⟨ret_bool (HO.out.symm ▸ (by simp [e1])), HB.out⟩
 · cases e1 : (n == 0)
   · go_enter Tryz.func76, Tryz.ntmps76
     go_wp2_with (go_at_call 92; refine HH.out.mono ?_; rintro en w' ⟨rfl, rfl⟩)
     go_ret
     exact ⟨ret_bool (HO.out.symm ▸ (by simp [e1])), HB.out⟩
   · cases e3 : ((nb : Int) == 0)
     · go_enter Tryz.func76, Tryz.ntmps76
       go_wp2_with (go_at_call 92; refine HH.out.mono ?_; rintro en w' ⟨rfl, rfl⟩)
       go_ret
       exact ⟨ret_bool (HO.out.symm ▸ (by simp [e1, e3])), HB.out⟩
     · go_enter Tryz.func76, Tryz.ntmps76
       go_wp2_with (go_at_call 92; refine HH.out.mono ?_; rintro en w' ⟨rfl, rfl⟩)
       go_ret
       exact ⟨ret_bool (HO.out.symm ▸ (by simp [e1, e3])), HB.out⟩
theorem number1_any (v : Bool) (n : Int) (w : World) :
 Calls Tryz.prog 93 #[.agg #[.bool v, .int .i64 n]] w fun e w' => e = .returned (.bool (!atomB ⟨v, n⟩)) ∧ Below w.heap.size w w' := by
 obtain ⟨W0, hW0⟩ : ∃ W0, w.alloc (.cells #[.bool v, .int .i64 n] 25) = W0 := ⟨_, rfl⟩
 have hb0 : Below w.heap.size w W0 := by rw [← hW0]; exact (Below.refl _ _).alloc (Nat.le_refl _) _
 have c0 : W0.cell? ⟨w.heap.size, 0, none⟩ = some (.bool v) := by rw [← hW0, World.cell?_alloc_at _ _ _ _ rfl]; rfl
 have c1 : W0.cell? ⟨w.heap.size, 1, none⟩ = some (.int .i64 n) := by rw [← hW0, World.cell?_alloc_at _ _ _ _ rfl]; rfl
 have HB := Lib.hid hb0
 have HC := Lib.hid (catom_any v n W0)
 clear hb0
 go_enter Tryz.func93, Tryz.ntmps93
 go_wp2_with fail
 refine HC.out.mono ?_
 rintro e w' ⟨rfl, hb⟩
 go_wp2_with fail
 go_ret
 exact ⟨rfl, HB.out.trans (hb.mono HB.out.size)⟩
end Go.Proofs.YtnobggabjpcbfaaGreat
namespace Go.Proofs.YtnobggabjpcbfaaGreat
open Go.RowKit
theorem infoI : (Tryz.prog.info? 3).map (fun i => (i.zero, i.size, i.bytes)) = some (some (.int .i64 0), 1, 8) := by kernel_rfl
theorem undI : Tryz.prog.underlying 30 = some (.slice 3) := by kernel_rfl
theorem own_intsD {w : World} {base n : Nat} {e : TypeId} {v : Value} {xs : List Int} (h : w.ownsRow base e 1 v n (xs.map (Value.int .i64))) (hb : xs.length * 8 ≤ 140737488351232) :
 ∃ A c, v = .slice A xs.length c ∧ IntsIn w.heap.size w A xs ∧ xs.length ≤ c := by
 have hl : xs.length = n := by have := h.1; simpa using this
 rcases h.2 with ⟨rfl, h0⟩ | ⟨g, cap, cur, rfl, _, hg, hn, _⟩
 · refine ⟨none, 0, by rw [hl, h0], ⟨hb, .inl (List.length_eq_zero_iff.1 (by omega))⟩, by omega⟩
 · refine ⟨some ⟨g, 0, none⟩, cap, by rw [hl], ⟨hb, .inr ⟨g, 0, rfl, (h.lt g rfl).2, fun j hj => ?_⟩⟩, by omega⟩
   have := World.ownsRow.cells h (g := g) rfl j (.int .i64 (nth xs j)) (by simp [nth_eq _ hj, hj])
   have ha : (⟨g, 0, none⟩ : Addr).add j = ⟨g, 0 + j, none⟩ := by unfold Addr.add; split <;> simp_all
   rw [ha] at this
   exact this
structure RhsAt (w W0 : World) (b : Nat) (k n : Int) (Aa Ak Al : Option Addr) (na ca nk ck nb cb : Nat) : Prop where
 c0 : W0.cell? ⟨b, 0, none⟩ = some (.int .i64 k)
 c1 : W0.cell? ⟨b, 1, none⟩ = some (.int .i64 n)
 c2 : W0.cell? ⟨b, 2, none⟩ = some (.slice Aa na ca)
 c3 : W0.cell? ⟨b, 3, none⟩ = some (.slice Ak nk ck)
 c4 : W0.cell? ⟨b, 4, none⟩ = some (.slice Al nb cb)
 lt : b < W0.heap.size
theorem RhsAt.new (w : World) (k n : Int) (Aa Ak Al : Option Addr) (na ca nk ck nb cb : Nat) : RhsAt w (w.alloc (.cells #[.int .i64 k, .int .i64 n, .slice Aa na ca, .slice Ak nk ck, .slice Al nb cb] 60)) w.heap.size k n Aa Ak Al na ca nk ck nb cb :=
 ⟨by rw [World.cell?_alloc_at _ _ _ _ rfl]; rfl, by rw [World.cell?_alloc_at _ _ _ _ rfl]; rfl, by rw [World.cell?_alloc_at _ _ _ _ rfl]; rfl, by rw [World.cell?_alloc_at _ _ _ _ rfl]; rfl, by rw [World.cell?_alloc_at _ _ _ _ rfl]; rfl, by simp⟩
theorem RhsAt.behind {w W0 V : World} {b : Nat} {k n : Int} {Aa Ak Al : Option Addr} {na ca nk ck nb cb : Nat} (h : RhsAt w W0 b k n Aa Ak Al na ca nk ck nb cb) (hV : Below W0.heap.size W0 V) : RhsAt w V b k n Aa Ak Al na ca nk ck nb cb :=
 ⟨(hV.cell (p := ⟨_, _, none⟩) h.lt).trans h.c0, (hV.cell (p := ⟨_, _, none⟩) h.lt).trans h.c1, (hV.cell (p := ⟨_, _, none⟩) h.lt).trans h.c2, (hV.cell (p := ⟨_, _, none⟩) h.lt).trans h.c3, (hV.cell (p := ⟨_, _, none⟩) h.lt).trans h.c4, Nat.lt_of_lt_of_le h.lt hV.size⟩
theorem cgroup_any (k n : Int) (Aa Ak Al : Option Addr) (na ca ck nb cb : Nat) (ks : List Int) (w : World) (hk : IntsIn w.heap.size w Ak ks) (hkc : ks.length ≤ ck) :
 Calls Tryz.prog 55 #[.agg #[.int .i64 k, .int .i64 n, .slice Aa na ca, .slice Ak ks.length ck, .slice Al nb cb]] w fun e w' => ∃ A c, e = .returned (.slice A (groupV ks).length c) ∧ IntsIn w'.heap.size w' A (groupV ks) ∧ (groupV ks).length ≤ c ∧ Below w.heap.size w w' := by
 obtain ⟨W0, hW0⟩ : ∃ W0, w.alloc (.cells #[.int .i64 k, .int .i64 n, .slice Aa na ca, .slice Ak ks.length ck, .slice Al nb cb] 60) = W0 := ⟨_, rfl⟩
 have hb0 : Below w.heap.size w W0 := by rw [← hW0]; exact (Below.refl _ _).alloc (Nat.le_refl _) _
 have hR : RhsAt w W0 w.heap.size k n Aa Ak Al na ca ks.length ck nb cb := by rw [← hW0]; exact RhsAt.new _ _ _ _ _ _ _ _ _ _ _ _
 have HR := Lib.hid (fun (V : World) (hV : Below W0.heap.size W0 V) => (hR.behind hV).c3)
 have HK := Lib.hid (fun (V : World) (hV : Below W0.heap.size W0 V) (j : Nat) (hj : j < ks.length) => (show ∃ b o, Ak = some ⟨b, o, none⟩ ∧ V.cell? ⟨b, o + j, none⟩ = some (.int .i64 (nth ks j)) from by
  obtain ⟨b, o, h1, h2, h3⟩ := hk.at_ (by omega)
  exact ⟨b, o, h1, ((hb0.trans (hV.mono hb0.size)).cell (p := ⟨_, _, none⟩) h2).trans (h3 j hj)⟩))
 obtain ⟨i0, hinf, hz0, hz1, hz2⟩ := info_parts infoI
 have hl := groupV_len ks
 have HG := Lib.hid (groupV_get ks)
 have h64 := hk.1
 have HB := Lib.hid hb0
 clear hk hR hb0
 obtain ⟨L, hL⟩ : ∃ L, ks.length = L := ⟨_, rfl⟩
 rw [hL] at hW0 hkc HR HK hl HG h64 ⊢
 clear hL
 have hG8 : (groupV ks).length * 8 ≤ 140737488351232 := by omega
 have HG8 := Lib.hid hG8
 obtain ⟨G, hG⟩ : ∃ G, groupV ks = G := ⟨_, rfl⟩
 rw [hG] at hl HG HG8 ⊢
 have HL := Lib.hid hl
 clear hG hG8
 obtain ⟨M, hM⟩ : ∃ M, G.length = M := ⟨_, rfl⟩
 have HM := Lib.hid hM
 rw [hM] at hl
 clear hM
 go_enter Tryz.func55, Tryz.ntmps55
 go_wp2_with fail
 go_loopw [3, 4] (fun rv iv wr => ∃ j : Nat, j ≤ M ∧ iv = .int .i64 (3 * (j : Int)) ∧ Hid (wr.ownsRow W0.heap.size 3 1 rv j ((G.take j).map (Value.int .i64))) ∧ Hid (Below W0.heap.size W0 wr)) (fun _ iv _ => 3 * M + 3 - (intOf iv).toNat)
 case atStart => exact ⟨0, by omega, rfl, Lib.hid ⟨by simp, .inl ⟨rfl, rfl⟩⟩, Lib.hid (Below.refl _ _)⟩
 case round =>
  obtain ⟨j, hj, rfl, HO, HW⟩ := hrel
  have q3 := HR.out wr HW.out
  by_cases hlt : j < M
  · have hj1 : 3 * j < L := by omega
    obtain ⟨b, o, rfl, qk⟩ := HK.out wr HW.out (3 * j) hj1
    have e1 : (0 : Int) ≤ 3 * (j : Int) := by omega
    have e2 : 3 * (j : Int) < (L : Int) := by omega
    have e3 : (3 * (j : Int)).toNat = 3 * j := by omega
    have e4 : IntKind.i64.wrap (3 * (j : Int) + 3) = 3 * (j : Int) + 3 := by rw [IntKind.wrap_i64]; omega
    have e5 : (L : Int) ≤ (ck : Int) := by omega
    have hml : j + 1 ≤ maxLen := by unfold maxLen; omega
    have HGJ := Lib.hid (HG.out j hj1)
    have hrow := Lib.hid (show (wr.alloc (.cells #[.int .i64 (nth ks (3 * j))] 3)).ownsRow W0.heap.size 3 1 u3 j ((G.take j).map (Value.int .i64)) from HO.out.alloc _)
    have hws := HW.out.size
    go_wp2_with (at_builtin; refine wpList_append_own_at _ rfl _ _ 30 rfl W0.heap.size 3 i0 (.int .i64 0) 1 8 undI hinf hz0 hz1 hz2 rfl (by decide) _ _ _ rfl hrow.out ⟨wr.heap.size, 0, none⟩ 1 1 [.int .i64 (nth ks (3 * j))] rfl rfl (cell_one_new _ _ _) (by simp [Value.oneCell']) hml (by omega) (by rw [World.size_alloc]; omega) ?_; intro v' w1 hown' hgrow _ hat)
    have hgrow' := hgrow
    change World.grownBy _ w1 u3.ownBlock at hgrow'
    have hb1 : Below W0.heap.size W0 (wr.alloc (.cells #[.int .i64 (nth ks (3 * j))] 3)) := HW.out.alloc hws _
    have HW2 := Lib.hid (hb1.grown hgrow' hb1.size (fun q hq => (HO.out.lt q hq).1))
    have HO2 := Lib.hid (show w1.ownsRow W0.heap.size 3 1 v' (j + 1) ((G.take (j + 1)).map (Value.int .i64)) from by
     have he : G.take (j + 1) = G.take j ++ [nth ks (3 * j)] := by rw [List.take_add_one, HGJ.out]; rfl
     rw [he, List.map_append]
     exact hown')
    clear hgrow hgrow' hat hown' hb1
    go_roundw
    case rel => exact ⟨j + 1, by omega, by go_num, HO2, HW2⟩
    case measure => simp [intOf]; omega
  · have hjM : j = M := by omega
    have e2 : ¬ 3 * (j : Int) < (L : Int) := by omega
    have ho := HO.out
    rw [List.take_of_length_le (by rw [HM.out]; omega)] at ho
    obtain ⟨A, c, rfl, h1, h2⟩ := own_intsD ho HG8.out
    have HE := Lib.hid (show ∃ A' c', Ending.returned (.slice A G.length c) = .returned (.slice A' G.length c') ∧ IntsIn wr.heap.size wr A' G ∧ G.length ≤ c' ∧ Below w.heap.size w wr from ⟨A, c, rfl, h1, h2, HB.out.trans (HW.out.mono HB.out.size)⟩)
    clear ho h1 h2
    go_wp2_with fail
    go_ret
    exact HE.out
theorem functions_any {cb_ mb nf : Nat} (hnf : nf ≤ 1000000) (k n : Int) (Aa Ak Al : Option Addr) (na ca ck nb cb : Nat) (ks : List Int) (w : World) (hc : w.heap[cb_]? = some (.cells #[.int .i64 (nf : Int), .map (some mb)] 85 (0, 0))) (hk : IntsIn w.heap.size w Ak ks) (hkc : ks.length ≤ ck) :
 Calls Tryz.prog 79 #[.pointer (some ⟨cb_, 0, none⟩), .agg #[.int .i64 k, .int .i64 n, .slice Aa na ca, .slice Ak ks.length ck, .slice Al nb cb]] w fun e w' => e = .returned (.bool (funsB nf ks)) ∧ Below w.heap.size w w' := by
 obtain ⟨W0, hW0⟩ : ∃ W0, w.alloc (.cells #[.int .i64 k, .int .i64 n, .slice Aa na ca, .slice Ak ks.length ck, .slice Al nb cb] 60) = W0 := ⟨_, rfl⟩
 have hb0 : Below w.heap.size w W0 := by rw [← hW0]; exact (Below.refl _ _).alloc (Nat.le_refl _) _
 have hR : RhsAt w W0 w.heap.size k n Aa Ak Al na ca ks.length ck nb cb := by rw [← hW0]; exact RhsAt.new _ _ _ _ _ _ _ _ _ _ _ _
 have c0 : w.cell? ⟨cb_, 0, none⟩ = some (.int .i64 (nf : Int)) := by simp [World.cell?, hc]
 have HR := Lib.hid (fun (V : World) (hV : Below W0.heap.size W0 V) => (show V.cell? ⟨w.heap.size, 3, none⟩ = some (.slice Ak ks.length ck) ∧ V.cell? ⟨cb_, 0, none⟩ = some (.int .i64 (nf : Int)) from ⟨(hR.behind hV).c3, cell_behind (hb0.trans (hV.mono hb0.size)) c0⟩))
 have HK := Lib.hid (fun (V : World) (hV : Below W0.heap.size W0 V) (j : Nat) (hj : j < ks.length) => (show ∃ b o, Ak = some ⟨b, o, none⟩ ∧ V.cell? ⟨b, o + j, none⟩ = some (.int .i64 (nth ks j)) from by
  obtain ⟨b, o, h1, h2, h3⟩ := hk.at_ (by omega)
  exact ⟨b, o, h1, ((hb0.trans (hV.mono hb0.size)).cell (p := ⟨_, _, none⟩) h2).trans (h3 j hj)⟩))
 have hl := groupF_len ks
 have HG := Lib.hid (groupF_get' ks)
 have h64 := hk.1
 have HB := Lib.hid hb0
 clear hk hR hb0 hc c0
 obtain ⟨out, hout⟩ : ∃ o, funsB nf ks = o := ⟨_, rfl⟩
 rw [hout]
 have HO := Lib.hid hout
 clear hout
 obtain ⟨L, hL⟩ : ∃ L, ks.length = L := ⟨_, rfl⟩
 rw [hL] at hW0 hkc HR HK hl HG h64 ⊢
 clear hL
 have HL := Lib.hid hl
 have hw1 : IntKind.i64.wrap ((nf : Int) - 1) = (nf : Int) - 1 := by rw [IntKind.wrap_i64]; omega
 go_enter Tryz.func79, Tryz.ntmps79
 go_wp2_with fail
 go_loopw [5] (fun iv wr => ∃ j : Nat, 3 * j ≤ L + 2 ∧ iv = .int .i64 (3 * (j : Int) + 1) ∧ Hid (((groupF ks).take j).all (fun f => inB f 0 ((nf : Int) - 1)) = true) ∧ Hid (Below W0.heap.size W0 wr)) (fun iv _ => 3 * L + 9 - (intOf iv).toNat)
 case atStart => exact ⟨0, by omega, rfl, Lib.hid (by simp), Lib.hid (Below.refl _ _)⟩
 case round =>
  obtain ⟨j, hj, rfl, HA, HW⟩ := hrel
  obtain ⟨q3, qc⟩ := HR.out wr HW.out
  by_cases hlt : 3 * j + 1 < L
  · obtain ⟨b, o, rfl, qk⟩ := HK.out wr HW.out (3 * j + 1) hlt
    have e1 : (0 : Int) ≤ 3 * (j : Int) + 1 := by omega
    have e2 : 3 * (j : Int) + 1 < (L : Int) := by omega
    have e3 : (3 * (j : Int) + 1).toNat = 3 * j + 1 := by omega
    have e4 : IntKind.i64.wrap (3 * (j : Int) + 1 + 3) = 3 * (j : Int) + 1 + 3 := by rw [IntKind.wrap_i64]; omega
    have e5 : (L : Int) ≤ (ck : Int) := by omega
    have HGJ := Lib.hid (HG.out j hlt)
    cases hin : inB (nth ks (3 * j + 1)) 0 ((nf : Int) - 1)
    · have HF := Lib.hid (show out = false from HO.out.symm.trans (all_false HGJ.out hin))
      go_wp2_with fail
      go_quiet ((go_at_call 53; exact Calls.quiet_of_same (within_q _ _ _ _)))
      go_wp2_with fail
      go_ret
      exact ⟨ret_bool HF.out.symm, HB.out.trans ((below_drewN HW.out _).mono HB.out.size)⟩
    · have HA2 := Lib.hid (all_take_succ HGJ.out HA.out hin)
      go_wp2_with fail
      go_quiet ((go_at_call 53; exact Calls.quiet_of_same (within_q _ _ _ _)))
      go_wp2_with fail
      go_roundw
      case rel => exact ⟨j + 1, by omega, by go_num, HA2, Lib.hid (below_drewN HW.out _)⟩
      case measure => simp [intOf]; omega
  · have e2 : ¬ 3 * (j : Int) + 1 < (L : Int) := by omega
    have HE := Lib.hid (show out = true from HO.out.symm.trans (by
     have := HA.out
     rwa [List.take_of_length_le (by rw [HL.out]; omega)] at this))
    go_wp2_with fail
    go_ret
    exact ⟨ret_bool HE.out.symm, HB.out.trans (HW.out.mono HB.out.size)⟩
end Go.Proofs.YtnobggabjpcbfaaGreat
namespace Go.Proofs.YtnobggabjpcbfaaGreat
open Go.RowKit
theorem rising_any (Ak : Option Addr) (ck : Nat) (ks : List Int) (w : World) (hk : IntsIn w.heap.size w Ak ks) (hkc : ks.length ≤ ck) :
 Calls Tryz.prog 80 #[.slice Ak ks.length ck] w fun e w' => e = .returned (.bool (risingB ks)) ∧ w = w' := by
 have HK := Lib.hid (fun (j : Nat) (hj : j < ks.length) => (show ∃ b o, Ak = some ⟨b, o, none⟩ ∧ w.cell? ⟨b, o + j, none⟩ = some (.int .i64 (nth ks j)) ∧ (∀ i, i < ks.length → w.cell? ⟨b, o + i, none⟩ = some (.int .i64 (nth ks i))) from by
  obtain ⟨b, o, h1, h2, h3⟩ := hk.at_ (by omega)
  exact ⟨b, o, h1, h3 j hj, h3⟩))
 have h64 := hk.1
 clear hk
 obtain ⟨out, hout⟩ : ∃ o, risingB ks = o := ⟨_, rfl⟩
 rw [hout]
 have HO := Lib.hid hout
 clear hout
 obtain ⟨L, hL⟩ : ∃ L, ks.length = L := ⟨_, rfl⟩
 have HL := Lib.hid hL
 rw [hL] at hkc HK h64 ⊢
 clear hL
 go_enter Tryz.func80, Tryz.ntmps80
 go_wp2_with fail
 go_loopw [7] (fun iv wr => ∃ j : Nat, j ≤ L ∧ iv = .int .i64 (j : Int) ∧ w = wr ∧ Hid (∀ i, i < j → riseOk ks i = true)) (fun iv _ => L + 1 - (intOf iv).toNat)
 case atStart => exact ⟨0, by omega, rfl, rfl, Lib.hid (fun i hi => by omega)⟩
 case round =>
  obtain ⟨j, hj, rfl, rfl, HA⟩ := hrel
  by_cases hlt : j < L
  · obtain ⟨b, o, rfl, qk, hall⟩ := HK.out j hlt
    have HALL := Lib.hid hall
    clear hall
    have e1 : (0 : Int) ≤ (j : Int) := by omega
    have e2 : (j : Int) < (L : Int) := by omega
    have e4 : IntKind.i64.wrap ((j : Int) + 1) = (j : Int) + 1 := by rw [IntKind.wrap_i64]; omega
    have e5 : (L : Int) ≤ (ck : Int) := by omega
    cases hin : inB (nth ks j) (-1073741824) 1073741823
    · have HF := Lib.hid (show out = false from HO.out.symm.trans (risingB_false (i := j) (by rw [HL.out]; exact hlt) (by unfold riseOk; rw [hin]; rfl)))
      go_wp2_with (go_at_call 53; refine (within_any _ _ _ _).mono ?_; rintro en w' ⟨rfl, rfl⟩)
      go_ret
      exact ⟨ret_bool HF.out.symm, rfl⟩
    · by_cases h0 : j = 0
      · have HA2 := Lib.hid (show ∀ i, i < j + 1 → riseOk ks i = true from fun i hi => by
         have hi0 : i = 0 := by omega
         rw [h0] at hin
         rw [hi0]
         unfold riseOk; rw [hin]; rfl)
        have e6 : ¬ (0 : Int) < (j : Int) := by omega
        have H0 := Lib.hid h0
        clear h0
        go_wp2_with (go_at_call 53; refine (within_any _ _ _ _).mono ?_; rintro en w' ⟨rfl, rfl⟩)
        go_roundw
        case rel => exact ⟨j + 1, by omega, by go_num, (by first | rfl | trivial), HA2⟩
        case measure => simp [intOf]; omega
      · obtain ⟨q, rfl⟩ : ∃ q, j = q + 1 := ⟨j - 1, by omega⟩
        have qq := HALL.out q (by omega)
        have e6 : (0 : Int) < ((q + 1 : Nat) : Int) := by omega
        have e7 : IntKind.i64.wrap (((q + 1 : Nat) : Int) - 1) = (q : Int) := by rw [IntKind.wrap_i64]; omega
        have e8 : (0 : Int) ≤ (q : Int) := by omega
        have e9 : (q : Int) < (L : Int) := by omega
        by_cases hge : nth ks (q + 1) ≤ nth ks q
        · have HF := Lib.hid (show out = false from HO.out.symm.trans (risingB_false (i := q + 1) (by rw [HL.out]; exact hlt) (by
           unfold riseOk; rw [hin]; simp; omega)))
          obtain ⟨J, hJ⟩ : ∃ J : Int, ((q + 1 : Nat) : Int) = J := ⟨_, rfl⟩
          have hJn : J.toNat = q + 1 := by omega
          rw [hJ] at e1 e2 e4 e6 e7 ⊢
          have qk' : w.cell? ⟨b, o + J.toNat, none⟩ = some (.int .i64 (nth ks (q + 1))) := by rw [hJn]; exact qk
          clear hJ
          go_wp2_with (go_at_call 53; refine (within_any _ _ _ _).mono ?_; rintro en w' ⟨rfl, rfl⟩)
          go_ret
          exact ⟨ret_bool HF.out.symm, rfl⟩
        · have HA2 := Lib.hid (show ∀ i, i < q + 1 + 1 → riseOk ks i = true from fun i hi => by
           by_cases hij : i = q + 1
           · subst hij
             unfold riseOk; rw [hin]; simp; omega
           · exact HA.out i (by omega))
          obtain ⟨J, hJ⟩ : ∃ J : Int, ((q + 1 : Nat) : Int) = J := ⟨_, rfl⟩
          have hJn : J.toNat = q + 1 := by omega
          rw [hJ] at e1 e2 e4 e6 e7 ⊢
          have qk' : w.cell? ⟨b, o + J.toNat, none⟩ = some (.int .i64 (nth ks (q + 1))) := by rw [hJn]; exact qk
          have HJ := Lib.hid hJ
          clear hJ
          go_wp2_with (go_at_call 53; refine (within_any _ _ _ _).mono ?_; rintro en w' ⟨rfl, rfl⟩)
          go_roundw
          case rel => exact ⟨q + 1 + 1, by omega, by rw [← HJ.out]; go_num, (by first | rfl | trivial), HA2⟩
          case measure => have := HJ.out; simp [intOf]; omega
  · have e2 : ¬ (j : Int) < (L : Int) := by omega
    have HE := Lib.hid (show out = true from HO.out.symm.trans (risingB_true (fun i hi => HA.out i (by rw [HL.out] at hi; omega))))
    go_wp2_with fail
    go_ret
    exact ⟨ret_bool HE.out.symm, rfl⟩
end Go.Proofs.YtnobggabjpcbfaaGreat
