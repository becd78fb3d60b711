/-
  5 texts of this seat in one: S1 S0 S2 S3 S4.
-/
import Derived.Test.YtnobggabjpcbfaaQM6
import Derived.Test.YtnobggabjpcbfaaQM3
import Derived.Test.YtnobggabjpcbfaaQM8
import Derived.Test.YtnobggabjpcbfaaQM9
import Derived.Test.YtnobggabjpcbfaaQM1
/-
  camletref30: its small functions; camletref01.Wrap.
-/
set_option linter.unusedVariables false
set_option linter.unusedSimpArgs false
namespace Go.Proofs.Ytnobggabjpcbfaa
open Go.RowKit Go.Maps

theorem rwrap_any (n : Int) (w : World) : Calls Try.prog 41 #[.int .i64 n] w fun e w' => e = .returned (.int .i64 (wrap31 n)) ∧ w = w' := by
  have h1 : Int.tmod n 2147483648 = if 0 ≤ n then n % 2147483648 else -((-n) % 2147483648) := by
    split
    · rename_i h; rw [Int.tmod_eq_emod_of_nonneg h]
    · rename_i h
      have := Int.neg_tmod (-n) 2147483648
      rw [Int.neg_neg] at this
      rw [this, Int.tmod_eq_emod_of_nonneg (by omega)]
  obtain ⟨m, hm⟩ : ∃ m, Int.tmod n 2147483648 = m := ⟨_, rfl⟩
  have hb : -2147483648 < m ∧ m < 2147483648 := by rw [← hm, h1]; split <;> omega
  have hw : wrap31 n = (if 0 ≤ m then (if 1073741824 ≤ m then m - 2147483648 else m) else (if 1073741824 ≤ m + 2147483648 then m + 2147483648 - 2147483648 else m + 2147483648)) := by
    rw [← hm, h1]; unfold wrap31
    split <;> split <;> split <;> omega
  have HW := Lib.hid hw
  clear hw h1
  have hw1 : IntKind.i64.wrap (m + 2147483648) = m + 2147483648 := by rw [IntKind.wrap_i64]; omega
  have hw2 : IntKind.i64.wrap (m - 2147483648) = m - 2147483648 := by rw [IntKind.wrap_i64]; omega
  have hw3 : IntKind.i64.wrap (m + 2147483648 - 2147483648) = m + 2147483648 - 2147483648 := by rw [IntKind.wrap_i64]; omega
  by_cases h0 : m < 0
  · by_cases h2 : 1073741824 ≤ m + 2147483648
    · have HF := Lib.hid (HW.out.trans (by rw [if_neg (by omega), if_pos h2]))
      go_enter Try.func41, Try.ntmps41
      go_wp2
      go_ret
      exact ⟨ret_int (by have := HF.out; omega), rfl⟩
    · have HF := Lib.hid (HW.out.trans (by rw [if_neg (by omega), if_neg h2]))
      go_enter Try.func41, Try.ntmps41
      go_wp2
      go_ret
      exact ⟨ret_int (by have := HF.out; omega), rfl⟩
  · by_cases h2 : 1073741824 ≤ m
    · have HF := Lib.hid (HW.out.trans (by rw [if_pos (by omega), if_pos h2]))
      go_enter Try.func41, Try.ntmps41
      go_wp2
      go_ret
      exact ⟨ret_int (by have := HF.out; omega), rfl⟩
    · have HF := Lib.hid (HW.out.trans (by rw [if_pos (by omega), if_neg h2]))
      go_enter Try.func41, Try.ntmps41
      go_wp2
      go_ret
      exact ⟨ret_int (by have := HF.out; omega), rfl⟩
theorem wrap31_in {n : Int} (h : inB n (-1073741824) 1073741823 = true) : wrap31 n = n := by
  have := inB_iff.1 h
  unfold wrap31; omega
theorem wrap31_out {n : Int} (h : inB n (-1073741824) 1073741823 = false) : wrap31 n ≠ n := by
  have : ¬ (-1073741824 ≤ n ∧ n ≤ 1073741823) := fun hh => by rw [inB_iff.2 hh] at h; cases h
  unfold wrap31; omega
theorem is_any (n a b : Int) (w : World) : Calls Try.prog 38 #[.int .i64 n, .int .i64 a, .int .i64 b] w fun e w' => e = .returned (.bool (inB n a b)) ∧ w = w' := by
  by_cases h : a ≤ n
  all_goals
    go_enter Try.func38, Try.ntmps38
    go_wp2
    go_ret
    exact ⟨ret_bool (by simp [inB]; omega), rfl⟩
theorem isVar_any (n : Int) (w : World) : Calls Try.prog 25 #[.int .i64 n] w fun e w' => e = .returned (.bool (varB n)) ∧ w = w' := by
  go_enter Try.func25, Try.ntmps25
  go_wp2_with (go_at_call 38; refine (is_any _ _ _ _).mono ?_; rintro e w' ⟨rfl, rfl⟩)
  go_ret
  exact ⟨rfl, rfl⟩
theorem rargs_any (p : Int) (w : World) : Calls Try.prog 68 #[.int .i64 p] w fun e w' => e = .returned (.int .i64 (if twoF p then 2 else 1)) ∧ w = w' := by
  obtain ⟨out, hout⟩ : ∃ o : Int, (if twoF p then (2 : Int) else 1) = o := ⟨_, rfl⟩
  rw [hout]
  have HO := Lib.hid hout
  clear hout
  by_cases h9 : p ≤ 9
  · have HF := Lib.hid (show out = 2 from HO.out.symm.trans (by simp [twoF, h9]))
    go_enter Try.func68, Try.ntmps68
    go_wp2
    go_ret
    exact ⟨ret_int HF.out.symm, rfl⟩
  · by_cases h12 : p = 12
    · have HF := Lib.hid (show out = 2 from HO.out.symm.trans (by simp [twoF, h12]))
      subst h12
      go_enter Try.func68, Try.ntmps68
      go_wp2
      go_ret
      exact ⟨ret_int HF.out.symm, rfl⟩
    · by_cases h16 : p = 16
      · have HF := Lib.hid (show out = 2 from HO.out.symm.trans (by simp [twoF, h16]))
        subst h16
        go_enter Try.func68, Try.ntmps68
        go_wp2
        go_ret
        exact ⟨ret_int HF.out.symm, rfl⟩
      · have HF := Lib.hid (show out = 1 from HO.out.symm.trans (by simp [twoF, h9, h12, h16]))
        have e1 : (p == 12) = false := by simpa using h12
        have e2 : (p == 16) = false := by simpa using h16
        clear h12 h16
        go_enter Try.func68, Try.ntmps68
        go_wp2
        go_ret
        exact ⟨ret_int HF.out.symm, rfl⟩
theorem rfields_any (k : Int) (w : World) :
    Calls Try.prog 55 #[.int .i64 k] w fun e w' => e = .returned (.tuple #[.bool (hasN k), .bool (hasA k), .bool (hasK k), .bool (hasB k), .bool (hasA k)]) ∧ w = w' := by
  by_cases h : k = 1 ∨ k = 6 ∨ k = 2 ∨ k = 3 ∨ k = 4 ∨ k = 9 ∨ k = 8 ∨ k = 10
  · rcases h with rfl | rfl | rfl | rfl | rfl | rfl | rfl | rfl
    all_goals
      go_enter Try.func55, Try.ntmps55
      go_wp2
      refine bodyPost_ret (v := .tuple #[.bool _, .bool _, .bool _, .bool _, .bool _]) (by simp [results, Try.results55, go_sem]; decide) rfl ⟨rfl, rfl⟩
  · have e1 : (k == 1) = false := by simp; omega
    have e2 : (k == 2) = false := by simp; omega
    have e3 : (k == 3) = false := by simp; omega
    have e4 : (k == 4) = false := by simp; omega
    have e6 : (k == 6) = false := by simp; omega
    have e8 : (k == 8) = false := by simp; omega
    have e9 : (k == 9) = false := by simp; omega
    have e10 : (k == 10) = false := by simp; omega
    go_enter Try.func55, Try.ntmps55
    go_wp2
    refine bodyPost_ret (v := .tuple #[.bool false, .bool false, .bool false, .bool false, .bool false]) (by simp [results, Try.results55, go_sem]) rfl ⟨?_, rfl⟩
    simp [hasN, hasA, hasK, hasB, e1, e2, e3, e4, e6, e8, e9, e10]
/-- N, as its kind asks -/
def nB (nf : Nat) (k n : Int) : Bool := if k = 3 then inB n 0 1023 else if k = 4 then inB n 0 255 else if k = 9 then inB n 0 ((nf : Int) - 1) else true
set_option maxRecDepth 100000 in
theorem rnumber_any {nf : Nat} (hnf : nf ≤ 1000000) (k n : Int) (Aa Ak Al : Option Addr) (na ca nk ck nb cb : Nat) (w : World) :
    Calls Try.prog 56 #[.agg #[.int .i64 k, .int .i64 n, .slice Aa na ca, .slice Ak nk ck, .slice Al nb cb], .int .i64 (nf : Int)] w fun e w' => e = .returned (.bool (nB nf k n)) ∧ Below w.heap.size w w' := by
  obtain ⟨W0, hW0⟩ : ∃ W0, w.alloc (.cells #[.int .i64 k, .int .i64 n, .slice Aa na ca, .slice Ak nk ck, .slice Al nb cb] 52) = W0 := ⟨_, rfl⟩
  have hb0 : Below w.heap.size w W0 := by rw [← hW0]; exact (Below.refl _ _).alloc (Nat.le_refl _) _
  have c0 : W0.cell? ⟨w.heap.size, 0, none⟩ = some (.int .i64 k) := by rw [← hW0, World.cell?_alloc_at _ _ _ _ rfl]; rfl
  have c1 : W0.cell? ⟨w.heap.size, 1, none⟩ = some (.int .i64 n) := by rw [← hW0, World.cell?_alloc_at _ _ _ _ rfl]; rfl
  have HB := Lib.hid hb0
  clear hb0
  have hw1 : IntKind.i64.wrap ((nf : Int) - 1) = (nf : Int) - 1 := by rw [IntKind.wrap_i64]; omega
  by_cases h3 : k = 3
  · subst h3
    go_enter Try.func56, Try.ntmps56
    go_wp2_with (go_at_call 38; refine (is_any _ _ _ _).mono ?_; rintro e w' ⟨rfl, rfl⟩)
    go_ret
    exact ⟨ret_bool (by simp [nB]), HB.out⟩
  by_cases h4 : k = 4
  · subst h4
    go_enter Try.func56, Try.ntmps56
    go_wp2_with (go_at_call 38; refine (is_any _ _ _ _).mono ?_; rintro e w' ⟨rfl, rfl⟩)
    go_ret
    exact ⟨ret_bool (by simp [nB]), HB.out⟩
  by_cases h9 : k = 9
  · subst h9
    go_enter Try.func56, Try.ntmps56
    go_wp2_with (go_at_call 38; refine (is_any _ _ _ _).mono ?_; rintro e w' ⟨rfl, rfl⟩)
    go_ret
    exact ⟨ret_bool (by simp [nB]), HB.out⟩
  have e3 : (k == 3) = false := by simpa using h3
  have e4 : (k == 4) = false := by simpa using h4
  have e9 : (k == 9) = false := by simpa using h9
  have HN := Lib.hid (show nB nf k n = true from by simp [nB, h3, h4, h9])
  clear h3 h4 h9
  go_enter Try.func56, Try.ntmps56
  go_wp2_with fail
  go_ret
  exact ⟨ret_bool HN.out.symm, HB.out⟩
theorem contains_false {l : List Int} {n : Int} (h : ∀ i, i < l.length → nth l i ≠ n) : l.contains n = false := by
  rw [List.contains_eq_mem]
  simp only [decide_eq_false_iff_not]
  intro hm
  obtain ⟨i, hi, he⟩ := List.mem_iff_getElem.1 hm
  exact h i hi (by rw [nth_eq _ hi]; exact he)
theorem contains_true {l : List Int} {n : Int} {i : Nat} (hi : i < l.length) (h : nth l i = n) : l.contains n = true := by
  rw [List.contains_eq_mem]
  simp only [decide_eq_true_eq]
  rw [← h, nth_eq _ hi]
  exact List.getElem_mem hi
set_option maxRecDepth 100000 in
set_option maxHeartbeats 1000000 in
theorem rhas_any (A : Option Addr) (c : Nat) (l : List Int) (n : Int) (w : World) (hk : IntsIn w.heap.size w A l) (hkc : l.length ≤ c) :
    Calls Try.prog 42 #[.slice A l.length c, .int .i64 n] w fun e w' => e = .returned (.bool (l.contains n)) ∧ w = w' := by
  have HK := Lib.hid (fun (j : Nat) (hj : j < l.length) => (show ∃ b o, A = some ⟨b, o, none⟩ ∧ w.cell? ⟨b, o + j, none⟩ = some (.int .i64 (nth l j)) from by
    obtain ⟨b, o, h1, h2, h3⟩ := hk.at_ (by omega)
    exact ⟨b, o, h1, h3 j hj⟩))
  have h64 := hk.1
  clear hk
  obtain ⟨out, hout⟩ : ∃ o, l.contains n = o := ⟨_, rfl⟩
  rw [hout]
  have HO := Lib.hid hout
  clear hout
  obtain ⟨L, hL⟩ : ∃ L, l.length = L := ⟨_, rfl⟩
  have HL := Lib.hid hL
  rw [hL] at hkc HK h64 ⊢
  clear hL
  go_enter Try.func42, Try.ntmps42
  go_wp2_with fail
  go_loopw [5] (fun iv wr => ∃ j : Nat, j ≤ L ∧ iv = .int .i64 (j : Int) ∧ w = wr ∧ Hid (∀ i, i < j → nth l i ≠ n)) (fun iv _ => L + 1 - (intOf iv).toNat)
  case atStart => exact ⟨0, by omega, rfl, rfl, Lib.hid (fun i hi => by omega)⟩
  case round =>
    obtain ⟨j, hj, rfl, rfl, HA⟩ := hrel
    by_cases hlt : j < L
    · obtain ⟨b, o, rfl, qk⟩ := HK.out j hlt
      have e1 : (0 : Int) ≤ (j : Int) := by omega
      have e2 : (j : Int) < (L : Int) := by omega
      have e4 : IntKind.i64.wrap ((j : Int) + 1) = (j : Int) + 1 := by rw [IntKind.wrap_i64]; omega
      have e5 : (L : Int) ≤ (c : Int) := by omega
      by_cases hx : nth l j = n
      · have HT := Lib.hid (show out = true from HO.out.symm.trans (contains_true (by rw [HL.out]; exact hlt) hx))
        have hx' : (nth l j == n) = true := by simpa using hx
        clear hx
        generalize nth l j = x at *
        go_wp2_with fail
        go_ret
        exact ⟨ret_bool HT.out.symm, rfl⟩
      · have HA2 := Lib.hid (show ∀ i, i < j + 1 → nth l i ≠ n from fun i hi => by
          by_cases he : i = j
          · rw [he]; exact hx
          · exact HA.out i (by omega))
        have hx' : (nth l j == n) = false := by simpa using hx
        clear hx
        generalize nth l j = x at *
        go_wp2_with fail
        go_roundw
        case rel => exact ⟨j + 1, by omega, by go_num, (by first | rfl | trivial), HA2⟩
        case measure => simp [intOf]; omega
    · have e2 : ¬ (j : Int) < (L : Int) := by omega
      have HE := Lib.hid (show out = false from HO.out.symm.trans (contains_false (fun i hi => HA.out i (by rw [HL.out] at hi; omega))))
      go_wp2_with fail
      go_ret
      exact ⟨ret_bool HE.out.symm, rfl⟩
theorem own_intsS {w : World} {base n : Nat} {e : TypeId} {v : Value} {xs : List Int} (h : w.ownsRow base e 1 v n (xs.map (Value.int .i64))) (hb : xs.length * 8 ≤ 140737488351232) :
    ∃ A c, v = .slice A xs.length c ∧ IntsIn w.heap.size w A xs ∧ xs.length ≤ c ∧ ∀ a, A = some a → base ≤ a.block := by
  obtain ⟨A, c, rfl, h1, h2⟩ := own_intsD h hb
  refine ⟨A, c, rfl, h1, h2, fun a ha => ?_⟩
  rcases h.2 with ⟨h0, _⟩ | ⟨g, cap, cur, h0, h3, _⟩
  · simp only [Value.slice.injEq] at h0
    rw [h0.1] at ha; cases ha
  · simp only [Value.slice.injEq] at h0
    rw [h0.1] at ha
    cases ha
    exact h3
set_option maxRecDepth 100000 in
set_option maxHeartbeats 1000000 in
theorem rvars_any (k n : Int) (Aa Ak Al : Option Addr) (na ca ck nb cb : Nat) (ks : List Int) (w : World) (hk : IntsIn w.heap.size w Ak ks) (hkc : ks.length ≤ ck) :
    Calls Try.prog 40 #[.agg #[.int .i64 k, .int .i64 n, .slice Aa na ca, .slice Ak ks.length ck, .slice Al nb cb]] w fun e w' => ∃ A c, e = .returned (.slice A (groupV ks).length c) ∧ IntsIn w'.heap.size w' A (groupV ks) ∧ (groupV ks).length ≤ c ∧ (∀ a, A = some a → w.heap.size ≤ a.block) ∧ Below w.heap.size w w' := by
  obtain ⟨W0, hW0⟩ : ∃ W0, w.alloc (.cells #[.int .i64 k, .int .i64 n, .slice Aa na ca, .slice Ak ks.length ck, .slice Al nb cb] 52) = W0 := ⟨_, rfl⟩
  have hb0 : Below w.heap.size w W0 := by rw [← hW0]; exact (Below.refl _ _).alloc (Nat.le_refl _) _
  have hR : RhsAt w W0 w.heap.size k n Aa Ak Al na ca ks.length ck nb cb := by rw [← hW0]; exact RhsAt.new _ _ _ _ _ _ _ _ _ _ _ _
  have HR := Lib.hid (fun (V : World) (hV : Below W0.heap.size W0 V) => (hR.behind hV).c3)
  have HK := Lib.hid (fun (V : World) (hV : Below W0.heap.size W0 V) (j : Nat) (hj : j < ks.length) => (show ∃ b o, Ak = some ⟨b, o, none⟩ ∧ V.cell? ⟨b, o + j, none⟩ = some (.int .i64 (nth ks j)) from by
    obtain ⟨b, o, h1, h2, h3⟩ := hk.at_ (by omega)
    exact ⟨b, o, h1, ((hb0.trans (hV.mono hb0.size)).cell (p := ⟨_, _, none⟩) h2).trans (h3 j hj)⟩))
  obtain ⟨i0, hinf, hz0, hz1, hz2⟩ := info_parts infoI
  have hl := groupV_len ks
  have HG := Lib.hid (groupV_get ks)
  have h64 := hk.1
  have HB := Lib.hid hb0
  clear hk hR hb0
  obtain ⟨L, hL⟩ : ∃ L, ks.length = L := ⟨_, rfl⟩
  rw [hL] at hW0 hkc HR HK hl HG h64 ⊢
  clear hL
  have hG8 : (groupV ks).length * 8 ≤ 140737488351232 := by omega
  have HG8 := Lib.hid hG8
  obtain ⟨G, hG⟩ : ∃ G, groupV ks = G := ⟨_, rfl⟩
  rw [hG] at hl HG HG8 ⊢
  have HL := Lib.hid hl
  clear hG hG8
  obtain ⟨M, hM⟩ : ∃ M, G.length = M := ⟨_, rfl⟩
  have HM := Lib.hid hM
  rw [hM] at hl
  clear hM
  go_enter Try.func40, Try.ntmps40
  go_wp2_with fail
  go_loopw [3, 4] (fun rv iv wr => ∃ j : Nat, j ≤ M ∧ iv = .int .i64 (3 * (j : Int)) ∧ Hid (wr.ownsRow W0.heap.size 3 1 rv j ((G.take j).map (Value.int .i64))) ∧ Hid (Below W0.heap.size W0 wr)) (fun _ iv _ => 3 * M + 3 - (intOf iv).toNat)
  case atStart => exact ⟨0, by omega, rfl, Lib.hid ⟨by simp, .inl ⟨rfl, rfl⟩⟩, Lib.hid (Below.refl _ _)⟩
  case round =>
    obtain ⟨j, hj, rfl, HO, HW⟩ := hrel
    have q3 := HR.out wr HW.out
    by_cases hlt : j < M
    · have hj1 : 3 * j < L := by omega
      obtain ⟨b, o, rfl, qk⟩ := HK.out wr HW.out (3 * j) hj1
      have e1 : (0 : Int) ≤ 3 * (j : Int) := by omega
      have e2 : 3 * (j : Int) < (L : Int) := by omega
      have e3 : (3 * (j : Int)).toNat = 3 * j := by omega
      have e4 : IntKind.i64.wrap (3 * (j : Int) + 3) = 3 * (j : Int) + 3 := by rw [IntKind.wrap_i64]; omega
      have e5 : (L : Int) ≤ (ck : Int) := by omega
      have hml : j + 1 ≤ maxLen := by unfold maxLen; omega
      have HGJ := Lib.hid (HG.out j hj1)
      have hrow := Lib.hid (show (wr.alloc (.cells #[.int .i64 (nth ks (3 * j))] 3)).ownsRow W0.heap.size 3 1 u3 j ((G.take j).map (Value.int .i64)) from HO.out.alloc _)
      have hws := HW.out.size
      go_wp2_with (at_builtin; refine wpList_append_own_at _ rfl _ _ 30 rfl W0.heap.size 3 i0 (.int .i64 0) 1 8 undI hinf hz0 hz1 hz2 rfl (by decide) _ _ _ rfl hrow.out ⟨wr.heap.size, 0, none⟩ 1 1 [.int .i64 (nth ks (3 * j))] rfl rfl (cell_one_new _ _ _) (by simp [Value.oneCell']) hml (by omega) (by rw [World.size_alloc]; omega) ?_; intro v' w1 hown' hgrow _ hat)
      have hgrow' := hgrow
      change World.grownBy _ w1 u3.ownBlock at hgrow'
      have hb1 : Below W0.heap.size W0 (wr.alloc (.cells #[.int .i64 (nth ks (3 * j))] 3)) := HW.out.alloc hws _
      have HW2 := Lib.hid (hb1.grown hgrow' hb1.size (fun q hq => (HO.out.lt q hq).1))
      have HO2 := Lib.hid (show w1.ownsRow W0.heap.size 3 1 v' (j + 1) ((G.take (j + 1)).map (Value.int .i64)) from by
        have he : G.take (j + 1) = G.take j ++ [nth ks (3 * j)] := by rw [List.take_add_one, HGJ.out]; rfl
        rw [he, List.map_append]
        exact hown')
      clear hgrow hgrow' hat hown' hb1
      go_roundw
      case rel => exact ⟨j + 1, by omega, by go_num, HO2, HW2⟩
      case measure => simp [intOf]; omega
    · have hjM : j = M := by omega
      have e2 : ¬ 3 * (j : Int) < (L : Int) := by omega
      have ho := HO.out
      rw [List.take_of_length_le (by rw [HM.out]; omega)] at ho
      obtain ⟨A, c, rfl, h1, h2, h3⟩ := own_intsS ho HG8.out
      have HE := Lib.hid (show ∃ A' c', Ending.returned (.slice A G.length c) = .returned (.slice A' G.length c') ∧ IntsIn wr.heap.size wr A' G ∧ G.length ≤ c' ∧ (∀ a, A' = some a → w.heap.size ≤ a.block) ∧ Below w.heap.size w wr from ⟨A, c, rfl, h1, h2, fun a ha => Nat.le_trans HB.out.size (h3 a ha), HB.out.trans (HW.out.mono HB.out.size)⟩)
      clear ho h1 h2 h3
      go_wp2_with fail
      go_ret
      exact HE.out

end Go.Proofs.Ytnobggabjpcbfaa

/-
  Appends of rows that may be nil, in whatever order; rows of ints.
-/
set_option linter.unusedVariables false
set_option linter.unusedSimpArgs false
namespace Go.Proofs.Ytnobggabjpcbfaa
open Go.RowKit

theorem add_plain (b o j : Nat) : (⟨b, o, none⟩ : Addr).add j = ⟨b, o + j, none⟩ := by cases j <;> simp [Addr.add]
/-- a row's cells; nil: there are none -/
def RowI (w : World) (A : Option Addr) (news : List Value) : Prop := (A = none ∧ news = []) ∨ ∃ ad : Addr, A = some ad ∧ ∀ j u, news[j]? = some u → w.cell? (ad.add j) = some u
theorem grown_below {w w1 w2 : World} {row : Option Nat} (h : Below w.heap.size w w1) (hg : w1.grownBy w2 row) (hr : ∀ b, row = some b → w.heap.size ≤ b) : Below w.heap.size w w2 :=
  ⟨hg.os.trans h.os, hg.tape.trans h.tape, hg.output.trans h.output, Nat.le_trans h.size hg.size, fun i hi => (hg.block i (Nat.lt_of_lt_of_le hi h.size) (fun e => by have := hr i e.symm; omega)).trans (h.block i hi)⟩
theorem own_ge {w : World} {base : Nat} {e : TypeId} {size : Nat} {v : Value} {n : Nat} {xs : List Value} (h : w.ownsRow base e size v n xs) : ∀ b, v.ownBlock = some b → base ≤ b := by
  intro b hb
  rcases h.2 with ⟨rfl, _⟩ | ⟨g, cap, cur, rfl, hg, _⟩
  · simp [Value.ownBlock] at hb
  · simp [Value.ownBlock] at hb; omega

section
variable {P : Program} (w : World)
theorem run_append_none_any (base : Nat) (t ty e : TypeId) (i : TypeInfo) (size : Nat) (ht : P.underlying t = some (.slice e)) (hi : P.info? e = some i)
    (v : Value) (n c : Nat) (xs : List Value) (hown : w.ownsRow base e size v n xs) :
    (Builtin.append_ #[t, t] ty #[v, .slice none 0 c]).run P w = .ok v w := by
  rcases hown.2 with ⟨rfl, rfl⟩ | ⟨g, cap, cur, rfl, _, _, hnc, _⟩
  · simp [Builtin.append_, run_underlying ht, sizeOf, typeInfo, hi, Builtin.lenOf, Builtin.firstCells]
  · simp [Builtin.append_, run_underlying ht, sizeOf, typeInfo, hi, Builtin.lenOf, Builtin.firstCells, hnc, storeCells]
theorem wp_append_row {o : Oper} {a : Act} {K : Act → World → Prop} {Q : Exit → Act → World → Prop} (s x : Operand) (t : TypeId)
    (ho : o.op = .call { callee := .builtin .append, args := #[s, x], argTypes := #[t, t] })
    (base : Nat) (e : TypeId) (i : TypeInfo) (z : Value) (size bytes : Nat) (ht : P.underlying t = some (.slice e)) (hi : P.info? e = some i) (hz : i.zero = some z)
    (hsize : i.size = size) (hby : i.bytes = bytes) (hzs : z.cells.size = size) (hsz : 0 < size)
    (v : Value) (n : Nat) (xs : List Value) (hs : a.eval s = v) (hown : w.ownsRow base e size v n xs)
    (A : Option Addr) (m c : Nat) (news : List Value) (hx : a.eval x = .slice A m c) (hl : news.length = m * size) (hnews : RowI w A news) (h1 : ∀ u ∈ news, u.oneCell' = true)
    (h63 : n + m ≤ maxLen) (hbytes : (n + m) * bytes ≤ 140737488355328) (hbase : base ≤ w.heap.size)
    (h : ∀ v' w', w'.ownsRow base e size v' (n + m) (xs ++ news) → w.grownBy w' v.ownBlock → (v'.ownBlock = v.ownBlock ∨ v'.ownBlock = some w.heap.size) → K (a.put o.dst v') w') : o.wp P a w K Q := by
  rcases hnews with ⟨rfl, rfl⟩ | ⟨ad, rfl, hc⟩
  · have hm : m = 0 := by
      simp only [List.length_nil] at hl
      rcases Nat.mul_eq_zero.1 hl.symm with h0 | h0
      · exact h0
      · omega
    subst hm
    have hr := run_append_none_any (P := P) w base t o.type e i size ht hi v n c xs hown
    unfold Oper.wp execOp
    simp only [ho, resolve, invoke, builtin, Sem.run_bind, Sem.run_pure, Result.andThen_ok, List.map_toArray, List.map_cons, List.map_nil, hs, hx, hr]
    exact h v w (by simpa using hown) ⟨rfl, rfl, rfl, Nat.le_refl _, fun k _ _ => rfl⟩ (.inl rfl)
  · exact wp_append_at w s x t ho base e i z size bytes ht hi hz hsize hby hzs hsz v n xs hs hown ad m c news hx hl hc h1 h63 hbytes hbase h
theorem wpList_append_row {ops : Array Oper} {rest : List Oper} {o : Oper} {a : Act} {Q : Exit → Act → World → Prop} (hgd : o.guard = none) (s x : Operand) (t : TypeId)
    (ho : o.op = .call { callee := .builtin .append, args := #[s, x], argTypes := #[t, t] })
    (base : Nat) (e : TypeId) (i : TypeInfo) (z : Value) (size bytes : Nat) (ht : P.underlying t = some (.slice e)) (hi : P.info? e = some i) (hz : i.zero = some z)
    (hsize : i.size = size) (hby : i.bytes = bytes) (hzs : z.cells.size = size) (hsz : 0 < size)
    (v : Value) (n : Nat) (xs : List Value) (hs : a.eval s = v) (hown : w.ownsRow base e size v n xs)
    (A : Option Addr) (m c : Nat) (news : List Value) (hx : a.eval x = .slice A m c) (hl : news.length = m * size) (hnews : RowI w A news) (h1 : ∀ u ∈ news, u.oneCell' = true)
    (h63 : n + m ≤ maxLen) (hbytes : (n + m) * bytes ≤ 140737488355328) (hbase : base ≤ w.heap.size)
    (h : ∀ v' w', w'.ownsRow base e size v' (n + m) (xs ++ news) → w.grownBy w' v.ownBlock → (v'.ownBlock = v.ownBlock ∨ v'.ownBlock = some w.heap.size) → wpList P ops Q rest (a.put o.dst v') w') : wpList P ops Q (o :: rest) a w :=
  wpList_plain hgd fun K hK => wp_append_row w s x t ho base e i z size bytes ht hi hz hsize hby hzs hsz v n xs hs hown A m c news hx hl hnews h1 h63 hbytes hbase (fun v' w' h1 h2 h3 => hK _ _ (h v' w' h1 h2 h3))
end
theorem own_empty (w : World) {base : Nat} (h : base ≤ w.heap.size) (e : TypeId) (size : Nat) : (w.alloc (.cells #[] e)).ownsRow base e size (.slice (some ⟨w.heap.size, 0, none⟩) 0 0) 0 [] := World.ownsRow_lit w #[] 0 h (by simp [maxLen]) (by simp)
theorem own_size {w : World} {base : Nat} {e : TypeId} {size n m : Nat} {v : Value} {xs : List Value} (hn : m = n) (h : w.ownsRow base e size v n ([] ++ xs)) : w.ownsRow base e size v m xs := by subst hn; simpa using h
theorem own_lt_ {base : Nat} {e : TypeId} {size m : Nat} {v : Value} {xs : List Value} {w : World} (h : w.ownsRow base e size v m xs) : ∀ b, v.ownBlock = some b → b < w.heap.size := by
  intro b hb
  rcases h.2 with ⟨rfl, _⟩ | ⟨g, cap, cur, rfl, hg, hc, _⟩
  · simp [Value.ownBlock] at hb
  · simp [Value.ownBlock] at hb
    subst hb
    exact (Array.getElem?_eq_some_iff.1 hc).1
abbrev iv (ks : List Int) : List Value := ks.map (fun n => Value.int .i64 n)
theorem iv_at (ks : List Int) (j : Nat) (u : Value) : (iv ks)[j]? = some u → j < ks.length ∧ u = .int .i64 (nth ks j) := by
  intro h
  rw [List.getElem?_map] at h
  cases hj : ks[j]? with
  | none => rw [hj] at h; cases h
  | some x =>
    rw [hj] at h
    have hlt := (List.getElem?_eq_some_iff.1 hj).1
    refine ⟨hlt, ?_⟩
    simp only [Option.map_some, Option.some.injEq] at h
    rw [← h]
    unfold nth
    rw [hj]; rfl
theorem iv_one (ks : List Int) : ∀ u ∈ iv ks, u.oneCell' = true := by
  intro u hu
  obtain ⟨x, -, rfl⟩ := List.mem_map.1 hu
  rfl
theorem ints_row {B : Nat} {w : World} {A : Option Addr} {ks : List Int} (h : IntsIn B w A ks) : RowI w A (iv ks) := by
  rcases h.2 with rfl | ⟨b, o, rfl, hb, hc⟩
  · rcases A with _ | ad
    · exact .inl ⟨rfl, rfl⟩
    · exact .inr ⟨_, rfl, by simp [iv]⟩
  · refine .inr ⟨_, rfl, fun j u hj => ?_⟩
    obtain ⟨h1, rfl⟩ := iv_at ks j u hj
    rw [add_plain]
    exact hc j h1
end Go.Proofs.Ytnobggabjpcbfaa

/-
  camletref30: counts.
-/
set_option linter.unusedVariables false
set_option linter.unusedSimpArgs false
namespace Go.Proofs.Ytnobggabjpcbfaa
open Go.RowKit

section
variable (x n : Int) (Aa Ak Al : Option Addr) (na ca ck nb cb : Nat) (ks : List Int) (w : World)
set_option maxRecDepth 100000 in
set_option maxHeartbeats 4000000 in
theorem rcount_atom : Calls Try.prog 57 #[.agg #[.int .i64 x, .int .i64 1, .int .i64 n, .slice Aa na ca, .slice Ak ks.length ck, .slice Al nb cb]] w fun e w' => e = .returned (.bool (countB x 1 n na ks nb)) ∧ Below w.heap.size w w' := by
  obtain ⟨W0, hW0⟩ : ∃ W0, w.alloc (.cells #[.int .i64 x, .int .i64 1, .int .i64 n, .slice Aa na ca, .slice Ak ks.length ck, .slice Al nb cb] 54) = W0 := ⟨_, rfl⟩
  have hb0 : Below w.heap.size w W0 := by rw [← hW0]; exact (Below.refl _ _).alloc (Nat.le_refl _) _
  have hs0 : w.heap.size < W0.heap.size := by rw [← hW0]; simp
  obtain ⟨W1, hW1⟩ : ∃ W1, W0.alloc (.cells #[.int .i64 1, .int .i64 n, .slice Aa na ca, .slice Ak ks.length ck, .slice Al nb cb] 52) = W1 := ⟨_, rfl⟩
  have hb1 : Below W0.heap.size W0 W1 := by rw [← hW1]; exact (Below.refl _ _).alloc (Nat.le_refl _) _
  have d0 : W0.cell? ⟨w.heap.size, 0, none⟩ = some (.int .i64 x) := by rw [← hW0, World.cell?_alloc_at _ _ _ _ rfl]; rfl
  have d1 : W0.cell? ⟨w.heap.size, 1, none⟩ = some (.int .i64 1) := by rw [← hW0, World.cell?_alloc_at _ _ _ _ rfl]; rfl
  have d2 : W0.cell? ⟨w.heap.size, 2, none⟩ = some (.int .i64 n) := by rw [← hW0, World.cell?_alloc_at _ _ _ _ rfl]; rfl
  have d3 : W0.cell? ⟨w.heap.size, 3, none⟩ = some (.slice Aa na ca) := by rw [← hW0, World.cell?_alloc_at _ _ _ _ rfl]; rfl
  have d4 : W0.cell? ⟨w.heap.size, 4, none⟩ = some (.slice Ak ks.length ck) := by rw [← hW0, World.cell?_alloc_at _ _ _ _ rfl]; rfl
  have d5 : W0.cell? ⟨w.heap.size, 5, none⟩ = some (.slice Al nb cb) := by rw [← hW0, World.cell?_alloc_at _ _ _ _ rfl]; rfl
  have hR : RhsAt W0 W1 W0.heap.size 1 n Aa Ak Al na ca ks.length ck nb cb := by rw [← hW1]; exact RhsAt.new _ _ _ _ _ _ _ _ _ _ _ _
  obtain ⟨c0, c1, c2, c3, c4, cl⟩ := hR
  have g0 : W1.cell? ⟨w.heap.size, 0, none⟩ = some (.int .i64 x) := (hb1.cell (p := ⟨w.heap.size, 0, none⟩) hs0).trans d0
  have HB := Lib.hid (hb0.trans (hb1.mono hb0.size))
  clear hb0 hb1
  go_enter Try.func57, Try.ntmps57
  go_wp2_with (first | (go_at_call 38; refine (is_any _ _ _ _).mono ?_; rintro en w' ⟨rfl, rfl⟩) | (go_at_call 68; refine (rargs_any _ _).mono ?_; rintro en w' ⟨rfl, rfl⟩))
  go_ret
  exact ⟨ret_bool (by have := nat_eq_bool na 1; simpa [countB] using this), HB.out⟩
set_option maxRecDepth 100000 in
set_option maxHeartbeats 4000000 in
theorem rcount_field : Calls Try.prog 57 #[.agg #[.int .i64 x, .int .i64 4, .int .i64 n, .slice Aa na ca, .slice Ak ks.length ck, .slice Al nb cb]] w fun e w' => e = .returned (.bool (countB x 4 n na ks nb)) ∧ Below w.heap.size w w' := by
  obtain ⟨W0, hW0⟩ : ∃ W0, w.alloc (.cells #[.int .i64 x, .int .i64 4, .int .i64 n, .slice Aa na ca, .slice Ak ks.length ck, .slice Al nb cb] 54) = W0 := ⟨_, rfl⟩
  have hb0 : Below w.heap.size w W0 := by rw [← hW0]; exact (Below.refl _ _).alloc (Nat.le_refl _) _
  have hs0 : w.heap.size < W0.heap.size := by rw [← hW0]; simp
  obtain ⟨W1, hW1⟩ : ∃ W1, W0.alloc (.cells #[.int .i64 4, .int .i64 n, .slice Aa na ca, .slice Ak ks.length ck, .slice Al nb cb] 52) = W1 := ⟨_, rfl⟩
  have hb1 : Below W0.heap.size W0 W1 := by rw [← hW1]; exact (Below.refl _ _).alloc (Nat.le_refl _) _
  have d0 : W0.cell? ⟨w.heap.size, 0, none⟩ = some (.int .i64 x) := by rw [← hW0, World.cell?_alloc_at _ _ _ _ rfl]; rfl
  have d1 : W0.cell? ⟨w.heap.size, 1, none⟩ = some (.int .i64 4) := by rw [← hW0, World.cell?_alloc_at _ _ _ _ rfl]; rfl
  have d2 : W0.cell? ⟨w.heap.size, 2, none⟩ = some (.int .i64 n) := by rw [← hW0, World.cell?_alloc_at _ _ _ _ rfl]; rfl
  have d3 : W0.cell? ⟨w.heap.size, 3, none⟩ = some (.slice Aa na ca) := by rw [← hW0, World.cell?_alloc_at _ _ _ _ rfl]; rfl
  have d4 : W0.cell? ⟨w.heap.size, 4, none⟩ = some (.slice Ak ks.length ck) := by rw [← hW0, World.cell?_alloc_at _ _ _ _ rfl]; rfl
  have d5 : W0.cell? ⟨w.heap.size, 5, none⟩ = some (.slice Al nb cb) := by rw [← hW0, World.cell?_alloc_at _ _ _ _ rfl]; rfl
  have hR : RhsAt W0 W1 W0.heap.size 4 n Aa Ak Al na ca ks.length ck nb cb := by rw [← hW1]; exact RhsAt.new _ _ _ _ _ _ _ _ _ _ _ _
  obtain ⟨c0, c1, c2, c3, c4, cl⟩ := hR
  have g0 : W1.cell? ⟨w.heap.size, 0, none⟩ = some (.int .i64 x) := (hb1.cell (p := ⟨w.heap.size, 0, none⟩) hs0).trans d0
  have HB := Lib.hid (hb0.trans (hb1.mono hb0.size))
  clear hb0 hb1
  go_enter Try.func57, Try.ntmps57
  go_wp2_with (first | (go_at_call 38; refine (is_any _ _ _ _).mono ?_; rintro en w' ⟨rfl, rfl⟩) | (go_at_call 68; refine (rargs_any _ _).mono ?_; rintro en w' ⟨rfl, rfl⟩))
  go_ret
  exact ⟨ret_bool (by have := nat_eq_bool na 1; simpa [countB] using this), HB.out⟩
set_option maxRecDepth 100000 in
set_option maxHeartbeats 4000000 in
theorem rcount_app : Calls Try.prog 57 #[.agg #[.int .i64 x, .int .i64 6, .int .i64 n, .slice Aa na ca, .slice Ak ks.length ck, .slice Al nb cb]] w fun e w' => e = .returned (.bool (countB x 6 n na ks nb)) ∧ Below w.heap.size w w' := by
  obtain ⟨W0, hW0⟩ : ∃ W0, w.alloc (.cells #[.int .i64 x, .int .i64 6, .int .i64 n, .slice Aa na ca, .slice Ak ks.length ck, .slice Al nb cb] 54) = W0 := ⟨_, rfl⟩
  have hb0 : Below w.heap.size w W0 := by rw [← hW0]; exact (Below.refl _ _).alloc (Nat.le_refl _) _
  have hs0 : w.heap.size < W0.heap.size := by rw [← hW0]; simp
  obtain ⟨W1, hW1⟩ : ∃ W1, W0.alloc (.cells #[.int .i64 6, .int .i64 n, .slice Aa na ca, .slice Ak ks.length ck, .slice Al nb cb] 52) = W1 := ⟨_, rfl⟩
  have hb1 : Below W0.heap.size W0 W1 := by rw [← hW1]; exact (Below.refl _ _).alloc (Nat.le_refl _) _
  have d0 : W0.cell? ⟨w.heap.size, 0, none⟩ = some (.int .i64 x) := by rw [← hW0, World.cell?_alloc_at _ _ _ _ rfl]; rfl
  have d1 : W0.cell? ⟨w.heap.size, 1, none⟩ = some (.int .i64 6) := by rw [← hW0, World.cell?_alloc_at _ _ _ _ rfl]; rfl
  have d2 : W0.cell? ⟨w.heap.size, 2, none⟩ = some (.int .i64 n) := by rw [← hW0, World.cell?_alloc_at _ _ _ _ rfl]; rfl
  have d3 : W0.cell? ⟨w.heap.size, 3, none⟩ = some (.slice Aa na ca) := by rw [← hW0, World.cell?_alloc_at _ _ _ _ rfl]; rfl
  have d4 : W0.cell? ⟨w.heap.size, 4, none⟩ = some (.slice Ak ks.length ck) := by rw [← hW0, World.cell?_alloc_at _ _ _ _ rfl]; rfl
  have d5 : W0.cell? ⟨w.heap.size, 5, none⟩ = some (.slice Al nb cb) := by rw [← hW0, World.cell?_alloc_at _ _ _ _ rfl]; rfl
  have hR : RhsAt W0 W1 W0.heap.size 6 n Aa Ak Al na ca ks.length ck nb cb := by rw [← hW1]; exact RhsAt.new _ _ _ _ _ _ _ _ _ _ _ _
  obtain ⟨c0, c1, c2, c3, c4, cl⟩ := hR
  have g0 : W1.cell? ⟨w.heap.size, 0, none⟩ = some (.int .i64 x) := (hb1.cell (p := ⟨w.heap.size, 0, none⟩) hs0).trans d0
  have HB := Lib.hid (hb0.trans (hb1.mono hb0.size))
  clear hb0 hb1
  go_enter Try.func57, Try.ntmps57
  go_wp2_with (first | (go_at_call 38; refine (is_any _ _ _ _).mono ?_; rintro en w' ⟨rfl, rfl⟩) | (go_at_call 68; refine (rargs_any _ _).mono ?_; rintro en w' ⟨rfl, rfl⟩))
  go_ret
  exact ⟨ret_bool (by have := nat_eq_bool na 2; simpa [countB] using this), HB.out⟩
set_option maxRecDepth 100000 in
set_option maxHeartbeats 4000000 in
theorem rcount_block : Calls Try.prog 57 #[.agg #[.int .i64 x, .int .i64 3, .int .i64 n, .slice Aa na ca, .slice Ak ks.length ck, .slice Al nb cb]] w fun e w' => e = .returned (.bool (countB x 3 n na ks nb)) ∧ Below w.heap.size w w' := by
  obtain ⟨W0, hW0⟩ : ∃ W0, w.alloc (.cells #[.int .i64 x, .int .i64 3, .int .i64 n, .slice Aa na ca, .slice Ak ks.length ck, .slice Al nb cb] 54) = W0 := ⟨_, rfl⟩
  have hb0 : Below w.heap.size w W0 := by rw [← hW0]; exact (Below.refl _ _).alloc (Nat.le_refl _) _
  have hs0 : w.heap.size < W0.heap.size := by rw [← hW0]; simp
  obtain ⟨W1, hW1⟩ : ∃ W1, W0.alloc (.cells #[.int .i64 3, .int .i64 n, .slice Aa na ca, .slice Ak ks.length ck, .slice Al nb cb] 52) = W1 := ⟨_, rfl⟩
  have hb1 : Below W0.heap.size W0 W1 := by rw [← hW1]; exact (Below.refl _ _).alloc (Nat.le_refl _) _
  have d0 : W0.cell? ⟨w.heap.size, 0, none⟩ = some (.int .i64 x) := by rw [← hW0, World.cell?_alloc_at _ _ _ _ rfl]; rfl
  have d1 : W0.cell? ⟨w.heap.size, 1, none⟩ = some (.int .i64 3) := by rw [← hW0, World.cell?_alloc_at _ _ _ _ rfl]; rfl
  have d2 : W0.cell? ⟨w.heap.size, 2, none⟩ = some (.int .i64 n) := by rw [← hW0, World.cell?_alloc_at _ _ _ _ rfl]; rfl
  have d3 : W0.cell? ⟨w.heap.size, 3, none⟩ = some (.slice Aa na ca) := by rw [← hW0, World.cell?_alloc_at _ _ _ _ rfl]; rfl
  have d4 : W0.cell? ⟨w.heap.size, 4, none⟩ = some (.slice Ak ks.length ck) := by rw [← hW0, World.cell?_alloc_at _ _ _ _ rfl]; rfl
  have d5 : W0.cell? ⟨w.heap.size, 5, none⟩ = some (.slice Al nb cb) := by rw [← hW0, World.cell?_alloc_at _ _ _ _ rfl]; rfl
  have hR : RhsAt W0 W1 W0.heap.size 3 n Aa Ak Al na ca ks.length ck nb cb := by rw [← hW1]; exact RhsAt.new _ _ _ _ _ _ _ _ _ _ _ _
  obtain ⟨c0, c1, c2, c3, c4, cl⟩ := hR
  have g0 : W1.cell? ⟨w.heap.size, 0, none⟩ = some (.int .i64 x) := (hb1.cell (p := ⟨w.heap.size, 0, none⟩) hs0).trans d0
  have HB := Lib.hid (hb0.trans (hb1.mono hb0.size))
  clear hb0 hb1
  go_enter Try.func57, Try.ntmps57
  go_wp2_with (first | (go_at_call 38; refine (is_any _ _ _ _).mono ?_; rintro en w' ⟨rfl, rfl⟩) | (go_at_call 68; refine (rargs_any _ _).mono ?_; rintro en w' ⟨rfl, rfl⟩))
  go_ret
  exact ⟨ret_bool (by simp [countB]), HB.out⟩
set_option maxRecDepth 100000 in
set_option maxHeartbeats 4000000 in
theorem rcount_close : Calls Try.prog 57 #[.agg #[.int .i64 x, .int .i64 9, .int .i64 n, .slice Aa na ca, .slice Ak ks.length ck, .slice Al nb cb]] w fun e w' => e = .returned (.bool (countB x 9 n na ks nb)) ∧ Below w.heap.size w w' := by
  obtain ⟨W0, hW0⟩ : ∃ W0, w.alloc (.cells #[.int .i64 x, .int .i64 9, .int .i64 n, .slice Aa na ca, .slice Ak ks.length ck, .slice Al nb cb] 54) = W0 := ⟨_, rfl⟩
  have hb0 : Below w.heap.size w W0 := by rw [← hW0]; exact (Below.refl _ _).alloc (Nat.le_refl _) _
  have hs0 : w.heap.size < W0.heap.size := by rw [← hW0]; simp
  obtain ⟨W1, hW1⟩ : ∃ W1, W0.alloc (.cells #[.int .i64 9, .int .i64 n, .slice Aa na ca, .slice Ak ks.length ck, .slice Al nb cb] 52) = W1 := ⟨_, rfl⟩
  have hb1 : Below W0.heap.size W0 W1 := by rw [← hW1]; exact (Below.refl _ _).alloc (Nat.le_refl _) _
  have d0 : W0.cell? ⟨w.heap.size, 0, none⟩ = some (.int .i64 x) := by rw [← hW0, World.cell?_alloc_at _ _ _ _ rfl]; rfl
  have d1 : W0.cell? ⟨w.heap.size, 1, none⟩ = some (.int .i64 9) := by rw [← hW0, World.cell?_alloc_at _ _ _ _ rfl]; rfl
  have d2 : W0.cell? ⟨w.heap.size, 2, none⟩ = some (.int .i64 n) := by rw [← hW0, World.cell?_alloc_at _ _ _ _ rfl]; rfl
  have d3 : W0.cell? ⟨w.heap.size, 3, none⟩ = some (.slice Aa na ca) := by rw [← hW0, World.cell?_alloc_at _ _ _ _ rfl]; rfl
  have d4 : W0.cell? ⟨w.heap.size, 4, none⟩ = some (.slice Ak ks.length ck) := by rw [← hW0, World.cell?_alloc_at _ _ _ _ rfl]; rfl
  have d5 : W0.cell? ⟨w.heap.size, 5, none⟩ = some (.slice Al nb cb) := by rw [← hW0, World.cell?_alloc_at _ _ _ _ rfl]; rfl
  have hR : RhsAt W0 W1 W0.heap.size 9 n Aa Ak Al na ca ks.length ck nb cb := by rw [← hW1]; exact RhsAt.new _ _ _ _ _ _ _ _ _ _ _ _
  obtain ⟨c0, c1, c2, c3, c4, cl⟩ := hR
  have g0 : W1.cell? ⟨w.heap.size, 0, none⟩ = some (.int .i64 x) := (hb1.cell (p := ⟨w.heap.size, 0, none⟩) hs0).trans d0
  have HB := Lib.hid (hb0.trans (hb1.mono hb0.size))
  clear hb0 hb1
  go_enter Try.func57, Try.ntmps57
  go_wp2_with (first | (go_at_call 38; refine (is_any _ _ _ _).mono ?_; rintro en w' ⟨rfl, rfl⟩) | (go_at_call 68; refine (rargs_any _ _).mono ?_; rintro en w' ⟨rfl, rfl⟩))
  go_ret
  exact ⟨ret_bool (by simp [countB]), HB.out⟩
set_option maxRecDepth 100000 in
set_option maxHeartbeats 4000000 in
theorem rcount_prim : Calls Try.prog 57 #[.agg #[.int .i64 x, .int .i64 2, .int .i64 n, .slice Aa na ca, .slice Ak ks.length ck, .slice Al nb cb]] w fun e w' => e = .returned (.bool (countB x 2 n na ks nb)) ∧ Below w.heap.size w w' := by
  obtain ⟨W0, hW0⟩ : ∃ W0, w.alloc (.cells #[.int .i64 x, .int .i64 2, .int .i64 n, .slice Aa na ca, .slice Ak ks.length ck, .slice Al nb cb] 54) = W0 := ⟨_, rfl⟩
  have hb0 : Below w.heap.size w W0 := by rw [← hW0]; exact (Below.refl _ _).alloc (Nat.le_refl _) _
  have hs0 : w.heap.size < W0.heap.size := by rw [← hW0]; simp
  obtain ⟨W1, hW1⟩ : ∃ W1, W0.alloc (.cells #[.int .i64 2, .int .i64 n, .slice Aa na ca, .slice Ak ks.length ck, .slice Al nb cb] 52) = W1 := ⟨_, rfl⟩
  have hb1 : Below W0.heap.size W0 W1 := by rw [← hW1]; exact (Below.refl _ _).alloc (Nat.le_refl _) _
  have d0 : W0.cell? ⟨w.heap.size, 0, none⟩ = some (.int .i64 x) := by rw [← hW0, World.cell?_alloc_at _ _ _ _ rfl]; rfl
  have d1 : W0.cell? ⟨w.heap.size, 1, none⟩ = some (.int .i64 2) := by rw [← hW0, World.cell?_alloc_at _ _ _ _ rfl]; rfl
  have d2 : W0.cell? ⟨w.heap.size, 2, none⟩ = some (.int .i64 n) := by rw [← hW0, World.cell?_alloc_at _ _ _ _ rfl]; rfl
  have d3 : W0.cell? ⟨w.heap.size, 3, none⟩ = some (.slice Aa na ca) := by rw [← hW0, World.cell?_alloc_at _ _ _ _ rfl]; rfl
  have d4 : W0.cell? ⟨w.heap.size, 4, none⟩ = some (.slice Ak ks.length ck) := by rw [← hW0, World.cell?_alloc_at _ _ _ _ rfl]; rfl
  have d5 : W0.cell? ⟨w.heap.size, 5, none⟩ = some (.slice Al nb cb) := by rw [← hW0, World.cell?_alloc_at _ _ _ _ rfl]; rfl
  have hR : RhsAt W0 W1 W0.heap.size 2 n Aa Ak Al na ca ks.length ck nb cb := by rw [← hW1]; exact RhsAt.new _ _ _ _ _ _ _ _ _ _ _ _
  obtain ⟨c0, c1, c2, c3, c4, cl⟩ := hR
  have g0 : W1.cell? ⟨w.heap.size, 0, none⟩ = some (.int .i64 x) := (hb1.cell (p := ⟨w.heap.size, 0, none⟩) hs0).trans d0
  have HB := Lib.hid (hb0.trans (hb1.mono hb0.size))
  clear hb0 hb1
  obtain ⟨q, hq⟩ : ∃ q : Int, (if twoF n then (2 : Int) else 1) = q := ⟨_, rfl⟩
  have HT := Lib.hid (show countB x 2 n na ks nb = ((na : Int) == q) from by
    have h1 := nat_eq_bool na 1
    have h2 := nat_eq_bool na 2
    rw [← hq]
    cases ht : twoF n
    · simpa [countB, ht] using h1.symm
    · simpa [countB, ht] using h2.symm)
  have HA := Lib.hid (show ∀ w, Calls Try.prog 68 #[.int .i64 n] w fun e w' => e = .returned (.int .i64 q) ∧ w = w' from fun w => hq ▸ rargs_any n w)
  clear hq
  go_enter Try.func57, Try.ntmps57
  go_wp2_with (go_at_call 68; refine (HA.out _).mono ?_; rintro en w' ⟨rfl, rfl⟩)
  go_ret
  exact ⟨ret_bool HT.out.symm, HB.out⟩
set_option maxRecDepth 100000 in
set_option maxHeartbeats 4000000 in
theorem rcount_switch (hl : ks.length * 8 ≤ 140737488351232) : Calls Try.prog 57 #[.agg #[.int .i64 x, .int .i64 8, .int .i64 n, .slice Aa na ca, .slice Ak ks.length ck, .slice Al nb cb]] w fun e w' => e = .returned (.bool (countB x 8 n na ks nb)) ∧ Below w.heap.size w w' := by
  obtain ⟨W0, hW0⟩ : ∃ W0, w.alloc (.cells #[.int .i64 x, .int .i64 8, .int .i64 n, .slice Aa na ca, .slice Ak ks.length ck, .slice Al nb cb] 54) = W0 := ⟨_, rfl⟩
  have hb0 : Below w.heap.size w W0 := by rw [← hW0]; exact (Below.refl _ _).alloc (Nat.le_refl _) _
  have hs0 : w.heap.size < W0.heap.size := by rw [← hW0]; simp
  obtain ⟨W1, hW1⟩ : ∃ W1, W0.alloc (.cells #[.int .i64 8, .int .i64 n, .slice Aa na ca, .slice Ak ks.length ck, .slice Al nb cb] 52) = W1 := ⟨_, rfl⟩
  have hb1 : Below W0.heap.size W0 W1 := by rw [← hW1]; exact (Below.refl _ _).alloc (Nat.le_refl _) _
  have d0 : W0.cell? ⟨w.heap.size, 0, none⟩ = some (.int .i64 x) := by rw [← hW0, World.cell?_alloc_at _ _ _ _ rfl]; rfl
  have d1 : W0.cell? ⟨w.heap.size, 1, none⟩ = some (.int .i64 8) := by rw [← hW0, World.cell?_alloc_at _ _ _ _ rfl]; rfl
  have d2 : W0.cell? ⟨w.heap.size, 2, none⟩ = some (.int .i64 n) := by rw [← hW0, World.cell?_alloc_at _ _ _ _ rfl]; rfl
  have d3 : W0.cell? ⟨w.heap.size, 3, none⟩ = some (.slice Aa na ca) := by rw [← hW0, World.cell?_alloc_at _ _ _ _ rfl]; rfl
  have d4 : W0.cell? ⟨w.heap.size, 4, none⟩ = some (.slice Ak ks.length ck) := by rw [← hW0, World.cell?_alloc_at _ _ _ _ rfl]; rfl
  have d5 : W0.cell? ⟨w.heap.size, 5, none⟩ = some (.slice Al nb cb) := by rw [← hW0, World.cell?_alloc_at _ _ _ _ rfl]; rfl
  have hR : RhsAt W0 W1 W0.heap.size 8 n Aa Ak Al na ca ks.length ck nb cb := by rw [← hW1]; exact RhsAt.new _ _ _ _ _ _ _ _ _ _ _ _
  obtain ⟨c0, c1, c2, c3, c4, cl⟩ := hR
  have g0 : W1.cell? ⟨w.heap.size, 0, none⟩ = some (.int .i64 x) := (hb1.cell (p := ⟨w.heap.size, 0, none⟩) hs0).trans d0
  have HB := Lib.hid (hb0.trans (hb1.mono hb0.size))
  clear hb0 hb1
  have hw : IntKind.i64.wrap ((ks.length : Int) + 1) = (ks.length : Int) + 1 := by rw [IntKind.wrap_i64]; omega
  cases h1 : ((na : Int) == 1)
  · have HT := Lib.hid (show countB x 8 n na ks nb = false from by rw [show ((na : Int) == 1) = (na == 1) from nat_eq_bool na 1] at h1; simp [countB, h1])
    go_enter Try.func57, Try.ntmps57
    go_wp2_with (first | (go_at_call 38; refine (is_any _ _ _ _).mono ?_; rintro en w' ⟨rfl, rfl⟩) | (go_at_call 68; refine (rargs_any _ _).mono ?_; rintro en w' ⟨rfl, rfl⟩))
    go_ret
    exact ⟨ret_bool HT.out.symm, HB.out⟩
  · have HT := Lib.hid (show countB x 8 n na ks nb = ((nb : Int) == (ks.length : Int) + 1) from by rw [show ((na : Int) == 1) = (na == 1) from nat_eq_bool na 1] at h1; have := nat_eq_bool nb (ks.length + 1); simp [countB, h1]; simpa using this.symm)
    go_enter Try.func57, Try.ntmps57
    go_wp2_with (first | (go_at_call 38; refine (is_any _ _ _ _).mono ?_; rintro en w' ⟨rfl, rfl⟩) | (go_at_call 68; refine (rargs_any _ _).mono ?_; rintro en w' ⟨rfl, rfl⟩))
    go_ret
    exact ⟨ret_bool HT.out.symm, HB.out⟩
set_option maxRecDepth 100000 in
set_option maxHeartbeats 4000000 in
theorem rcount_group (hk : IntsIn w.heap.size w Ak ks) (hkc : ks.length ≤ ck) : Calls Try.prog 57 #[.agg #[.int .i64 x, .int .i64 10, .int .i64 n, .slice Aa na ca, .slice Ak ks.length ck, .slice Al nb cb]] w fun e w' => e = .returned (.bool (countB x 10 n na ks nb)) ∧ Below w.heap.size w w' := by
  have HK := Lib.hid (fun (V : World) (hV : Below w.heap.size w V) => (show 0 < ks.length → ∃ b o, Ak = some ⟨b, o, none⟩ ∧ ∀ j, j < ks.length → V.cell? ⟨b, o + j, none⟩ = some (.int .i64 (nth ks j)) from fun h0 => by
    obtain ⟨b, o, h1, h2, h3⟩ := hk.at_ h0
    exact ⟨b, o, h1, fun j hj => (hV.cell (p := ⟨_, _, none⟩) h2).trans (h3 j hj)⟩))
  have h64 := hk.1
  clear hk
  obtain ⟨W0, hW0⟩ : ∃ W0, w.alloc (.cells #[.int .i64 x, .int .i64 10, .int .i64 n, .slice Aa na ca, .slice Ak ks.length ck, .slice Al nb cb] 54) = W0 := ⟨_, rfl⟩
  have hb0 : Below w.heap.size w W0 := by rw [← hW0]; exact (Below.refl _ _).alloc (Nat.le_refl _) _
  have hs0 : w.heap.size < W0.heap.size := by rw [← hW0]; simp
  obtain ⟨W1, hW1⟩ : ∃ W1, W0.alloc (.cells #[.int .i64 10, .int .i64 n, .slice Aa na ca, .slice Ak ks.length ck, .slice Al nb cb] 52) = W1 := ⟨_, rfl⟩
  have hb1 : Below W0.heap.size W0 W1 := by rw [← hW1]; exact (Below.refl _ _).alloc (Nat.le_refl _) _
  have d0 : W0.cell? ⟨w.heap.size, 0, none⟩ = some (.int .i64 x) := by rw [← hW0, World.cell?_alloc_at _ _ _ _ rfl]; rfl
  have d1 : W0.cell? ⟨w.heap.size, 1, none⟩ = some (.int .i64 10) := by rw [← hW0, World.cell?_alloc_at _ _ _ _ rfl]; rfl
  have d2 : W0.cell? ⟨w.heap.size, 2, none⟩ = some (.int .i64 n) := by rw [← hW0, World.cell?_alloc_at _ _ _ _ rfl]; rfl
  have d3 : W0.cell? ⟨w.heap.size, 3, none⟩ = some (.slice Aa na ca) := by rw [← hW0, World.cell?_alloc_at _ _ _ _ rfl]; rfl
  have d4 : W0.cell? ⟨w.heap.size, 4, none⟩ = some (.slice Ak ks.length ck) := by rw [← hW0, World.cell?_alloc_at _ _ _ _ rfl]; rfl
  have d5 : W0.cell? ⟨w.heap.size, 5, none⟩ = some (.slice Al nb cb) := by rw [← hW0, World.cell?_alloc_at _ _ _ _ rfl]; rfl
  have hR : RhsAt W0 W1 W0.heap.size 10 n Aa Ak Al na ca ks.length ck nb cb := by rw [← hW1]; exact RhsAt.new _ _ _ _ _ _ _ _ _ _ _ _
  obtain ⟨c0, c1, c2, c3, c4, cl⟩ := hR
  have g0 : W1.cell? ⟨w.heap.size, 0, none⟩ = some (.int .i64 x) := (hb1.cell (p := ⟨w.heap.size, 0, none⟩) hs0).trans d0
  have HB := Lib.hid (hb0.trans (hb1.mono hb0.size))
  clear hb0 hb1
  obtain ⟨out, hout⟩ : ∃ o, countB x 10 n na ks nb = o := ⟨_, rfl⟩
  rw [hout]
  have HO := Lib.hid (show out = ((groupH ks).all (fun h => inB h 0 255) && decide (3 ≤ ks.length) && ks.length % 3 == 0 && sumL (groupH ks) == (na : Int) && nth ks 0 == x) from hout.symm.trans (by simp [countB]))
  clear hout
  have HKK := Lib.hid (HK.out W1 HB.out)
  clear HK
  have HG := Lib.hid (groupH_get' ks)
  have hl := groupH_len ks
  obtain ⟨L, hL⟩ : ∃ L, ks.length = L := ⟨_, rfl⟩
  rw [hL] at hW0 hW1 d4 c3 hkc HO HKK HG hl h64 ⊢
  clear hL
  have HL := Lib.hid hl
  have hm : (L : Int).tmod 3 = ((L % 3 : Nat) : Int) := by rw [Int.tmod_eq_emod_of_nonneg (by omega)]; omega
  obtain ⟨md, hmd⟩ : ∃ md : Int, (L : Int).tmod 3 = md := ⟨_, rfl⟩
  have HMD := Lib.hid (show (md == 0) = (L % 3 == 0) from by rw [← hmd, hm]; exact nat_eq_bool _ 0)
  clear hm
  by_cases h3 : 3 ≤ L
  · have e3 : decide ((L : Int) < 3) = false := by simp; omega
    cases y1 : (md == 0)
    · have HF := Lib.hid (show out = false from HO.out.trans (by rw [← HMD.out, y1]; simp))
      have y1' : (md != 0) = true := by simp only [bne, y1]; rfl
      clear y1
      go_enter Try.func57, Try.ntmps57
      go_wp2_with fail
      go_quiet (fail)
      go_wp2_with fail
      go_ret
      exact ⟨ret_bool HF.out.symm, below_drewN HB.out _⟩
    · have y1' : (md != 0) = false := by simp only [bne, y1]; rfl
      obtain ⟨b, o, rfl, hall⟩ := HKK.out (by omega)
      have qk0 := hall 0 (by omega)
      have HALL := Lib.hid hall
      clear hall
      simp only [Nat.add_zero] at qk0
      have e5 : (0 : Int) < (L : Int) := by omega
      have e6 : (L : Int) ≤ (ck : Int) := by omega
      cases y2 : (x == nth ks 0)
      · have HF := Lib.hid (show out = false from HO.out.trans (by
          have : (nth ks 0 == x) = false := by rw [← y2, Bool.eq_iff_iff, beq_iff_eq, beq_iff_eq]; exact eq_comm
          rw [this]; simp))
        have y2' : (x != nth ks 0) = true := by simp only [bne, y2]; rfl
        clear y1 y2
        go_enter Try.func57, Try.ntmps57
        go_wp2_with fail
        go_quiet (fail)
        go_wp2_with fail
        go_ret
        exact ⟨ret_bool HF.out.symm, below_drewN HB.out _⟩
      · have HO2 := Lib.hid (show out = ((groupH ks).all (fun h => inB h 0 255) && sumL (groupH ks) == (na : Int)) from HO.out.trans (by
          have : (nth ks 0 == x) = true := by rw [← y2, Bool.eq_iff_iff, beq_iff_eq, beq_iff_eq]; exact eq_comm
          rw [this, ← HMD.out, y1]; simp [h3]))
        have y2' : (x != nth ks 0) = false := by simp only [bne, y2]; rfl
        clear y1 y2 HO
        go_enter Try.func57, Try.ntmps57
        go_wp2_with fail
        go_quiet (fail)
        go_wp2_with fail
        go_loopw [5, 6] (fun hv iv wr => ∃ j q : Nat, 3 * j ≤ L ∧ iv = .int .i64 (3 * (j : Int) + 2) ∧ hv = .int .i64 (sumL ((groupH ks).take j)) ∧ wr = W1.drewN q ∧ Hid (((groupH ks).take j).all (fun h => inB h 0 255) = true) ∧ 0 ≤ sumL ((groupH ks).take j) ∧ sumL ((groupH ks).take j) ≤ 255 * (j : Int)) (fun _ iv _ => 3 * L + 9 - (intOf iv).toNat)
        case atStart => exact ⟨0, _, by omega, rfl, rfl, rfl, Lib.hid (by simp), by simp [sumL], by simp [sumL]⟩
        case round =>
          obtain ⟨j, q, hj, rfl, rfl, rfl, HA, hs1, hs2⟩ := hrel
          by_cases hlt : 3 * j + 2 < L
          · have qk := HALL.out (3 * j + 2) hlt
            have e1 : (0 : Int) ≤ 3 * (j : Int) + 2 := by omega
            have e2 : 3 * (j : Int) + 2 < (L : Int) := by omega
            have e3 : (3 * (j : Int) + 2).toNat = 3 * j + 2 := by omega
            have e4 : IntKind.i64.wrap (3 * (j : Int) + 2 + 3) = 3 * (j : Int) + 2 + 3 := by rw [IntKind.wrap_i64]; omega
            have HGJ := Lib.hid (HG.out j hlt)
            cases hin : inB (nth ks (3 * j + 2)) 0 255
            · have HF := Lib.hid (show out = false from HO2.out.trans (by rw [all_false HGJ.out hin]; rfl))
              go_wp2_with (go_at_call 38; refine (is_any _ _ _ _).mono ?_; rintro en w' ⟨rfl, rfl⟩)
              go_ret
              exact ⟨ret_bool HF.out.symm, below_drewN HB.out _⟩
            · have HA2 := Lib.hid (all_take_succ HGJ.out HA.out hin)
              have hrng := inB_iff.1 hin
              have hsum : sumL ((groupH ks).take (j + 1)) = sumL ((groupH ks).take j) + nth ks (3 * j + 2) := by
                rw [List.take_add_one, HGJ.out]
                exact sumL_append _ _
              have HSUM := Lib.hid hsum
              have e6 : IntKind.i64.wrap (sumL ((groupH ks).take j) + nth ks (3 * j + 2)) = sumL ((groupH ks).take j) + nth ks (3 * j + 2) := by rw [IntKind.wrap_i64]; omega
              clear hsum
              generalize hS : sumL ((groupH ks).take j) = S at *
              go_wp2_with (go_at_call 38; refine (is_any _ _ _ _).mono ?_; rintro en w' ⟨rfl, rfl⟩)
              go_roundw
              case rel => exact ⟨j + 1, _, by omega, by go_num, by rw [HSUM.out], (by first | rfl | trivial), HA2, by rw [HSUM.out]; omega, by rw [HSUM.out]; omega⟩
              case measure => simp [intOf]; omega
          · have e2 : ¬ 3 * (j : Int) + 2 < (L : Int) := by omega
            have hfin : (groupH ks).take j = groupH ks := List.take_of_length_le (by rw [HL.out]; omega)
            have HAA := HA.out
            rw [hfin] at HAA hs1 hs2 ⊢
            have HF := Lib.hid (show out = (sumL (groupH ks) == (na : Int)) from HO2.out.trans (by rw [HAA]; simp))
            clear hfin HAA HA
            generalize sumL (groupH ks) = S at *
            go_wp2_with fail
            go_ret
            exact ⟨ret_bool HF.out.symm, below_drewN HB.out _⟩
  · have e3 : decide ((L : Int) < 3) = true := by simp; omega
    have HF := Lib.hid (show out = false from HO.out.trans (by simp [h3]))
    go_enter Try.func57, Try.ntmps57
    go_wp2_with fail
    go_quiet (fail)
    go_wp2_with fail
    go_ret
    exact ⟨ret_bool HF.out.symm, below_drewN HB.out _⟩
theorem rcount_any (k : Int) (hka : hasA k = true) (hk : IntsIn w.heap.size w Ak ks) (hkc : ks.length ≤ ck) : Calls Try.prog 57 #[.agg #[.int .i64 x, .int .i64 k, .int .i64 n, .slice Aa na ca, .slice Ak ks.length ck, .slice Al nb cb]] w fun e w' => e = .returned (.bool (countB x k n na ks nb)) ∧ Below w.heap.size w w' := by
  have h : k = 1 ∨ k = 6 ∨ k = 2 ∨ k = 3 ∨ k = 4 ∨ k = 9 ∨ k = 8 ∨ k = 10 := by simp [hasA] at hka; omega
  rcases h with rfl | rfl | rfl | rfl | rfl | rfl | rfl | rfl
  · exact rcount_atom x n Aa Ak Al na ca ck nb cb ks w
  · exact rcount_app x n Aa Ak Al na ca ck nb cb ks w
  · exact rcount_prim x n Aa Ak Al na ca ck nb cb ks w
  · exact rcount_block x n Aa Ak Al na ca ck nb cb ks w
  · exact rcount_field x n Aa Ak Al na ca ck nb cb ks w
  · exact rcount_close x n Aa Ak Al na ca ck nb cb ks w
  · exact rcount_switch x n Aa Ak Al na ca ck nb cb ks w hk.1
  · exact rcount_group x n Aa Ak Al na ca ck nb cb ks w hk hkc
end
end Go.Proofs.Ytnobggabjpcbfaa

/-
  camletref30.bind: what it finds in memory; are the variables known that it asks for?
-/
set_option linter.unusedVariables false
set_option linter.unusedSimpArgs false
namespace Go.Proofs.Ytnobggabjpcbfaa
open Go.RowKit Go.Maps

noncomputable def bdT3 : Code := match Try.f39.body with
  | some (.seq _ (.seq _ (.seq _ c))) => c
  | _ => .skip
noncomputable def bdT5 : Code := match Try.f39.body with
  | some (.seq _ (.seq _ (.seq _ (.seq _ c)))) => c
  | _ => .skip
noncomputable def bdT7 : Code := match Try.f39.body with
  | some (.seq _ (.seq _ (.seq _ (.seq _ (.seq _ c))))) => c
  | _ => .skip
noncomputable def bdT12 : Code := match Try.f39.body with
  | some (.seq _ (.seq _ (.seq _ (.seq _ (.seq _ (.seq _ c)))))) => c
  | _ => .skip
noncomputable def bdT17 : Code := match Try.f39.body with
  | some (.seq _ (.seq _ (.seq _ (.seq _ (.seq _ (.seq _ (.seq _ c))))))) => c
  | _ => .skip
noncomputable def bdT19 : Code := match Try.f39.body with
  | some (.seq _ (.seq _ (.seq _ (.seq _ (.seq _ (.seq _ (.seq _ (.seq _ c)))))))) => c
  | _ => .skip
noncomputable def bdT21 : Code := match Try.f39.body with
  | some (.seq _ (.seq _ (.seq _ (.seq _ (.seq _ (.seq _ (.seq _ (.seq _ (.seq _ c))))))))) => c
  | _ => .skip
noncomputable def bdT26 : Code := match Try.f39.body with
  | some (.seq _ (.seq _ (.seq _ (.seq _ (.seq _ (.seq _ (.seq _ (.seq _ (.seq _ (.seq _ c)))))))))) => c
  | _ => .skip
noncomputable def bdT31 : Code := match Try.f39.body with
  | some (.seq _ (.seq _ (.seq _ (.seq _ (.seq _ (.seq _ (.seq _ (.seq _ (.seq _ (.seq _ (.seq _ c))))))))))) => c
  | _ => .skip
noncomputable def bdT33 : Code := match Try.f39.body with
  | some (.seq _ (.seq _ (.seq _ (.seq _ (.seq _ (.seq _ (.seq _ (.seq _ (.seq _ (.seq _ (.seq _ (.seq _ c)))))))))))) => c
  | _ => .skip
noncomputable def bdC3 : Code := match Try.f39.body with
  | some (.seq _ (.seq _ (.seq _ (.seq c _)))) => c
  | _ => .skip
noncomputable def bdC5 : Code := match Try.f39.body with
  | some (.seq _ (.seq _ (.seq _ (.seq _ (.seq c _))))) => c
  | _ => .skip
noncomputable def bdC7 : Code := match Try.f39.body with
  | some (.seq _ (.seq _ (.seq _ (.seq _ (.seq _ (.seq c _)))))) => c
  | _ => .skip
noncomputable def bdC12 : Code := match Try.f39.body with
  | some (.seq _ (.seq _ (.seq _ (.seq _ (.seq _ (.seq _ (.seq c _))))))) => c
  | _ => .skip
noncomputable def bdC17 : Code := match Try.f39.body with
  | some (.seq _ (.seq _ (.seq _ (.seq _ (.seq _ (.seq _ (.seq _ (.seq c _)))))))) => c
  | _ => .skip
noncomputable def bdC19 : Code := match Try.f39.body with
  | some (.seq _ (.seq _ (.seq _ (.seq _ (.seq _ (.seq _ (.seq _ (.seq _ (.seq c _))))))))) => c
  | _ => .skip
noncomputable def bdC21 : Code := match Try.f39.body with
  | some (.seq _ (.seq _ (.seq _ (.seq _ (.seq _ (.seq _ (.seq _ (.seq _ (.seq _ (.seq c _)))))))))) => c
  | _ => .skip
noncomputable def bdC26 : Code := match Try.f39.body with
  | some (.seq _ (.seq _ (.seq _ (.seq _ (.seq _ (.seq _ (.seq _ (.seq _ (.seq _ (.seq _ (.seq c _))))))))))) => c
  | _ => .skip
noncomputable def bdC31 : Code := match Try.f39.body with
  | some (.seq _ (.seq _ (.seq _ (.seq _ (.seq _ (.seq _ (.seq _ (.seq _ (.seq _ (.seq _ (.seq _ (.seq c _)))))))))))) => c
  | _ => .skip
noncomputable def bdR32 : Code := match Try.f39.body with
  | some (.seq _ (.seq _ (.seq _ (.seq _ (.seq _ (.seq _ (.seq _ (.seq _ (.seq _ (.seq _ (.seq _ (.seq (.seq _ (.cond _ c _)) _)))))))))))) => c
  | _ => .skip
/-- an int is answered, what stood stands -/
def IntBelow (z : Int) (w : World) (e : Ending) (w' : World) : Prop := e = .returned (.int .i64 z) ∧ Below w.heap.size w w'
/-- the copies of the bind and of its right side; what they lead to -/
structure BCtx (w W1 : World) (X3 X7 : Nat) (x k n : Int) (Aa Ak Al A2 : Option Addr) (ats : List Atm) (ks : List Int) (ca ck nb cb c2 : Nat) (l : List Int) : Prop where
  bel : Below w.heap.size w W1
  h3 : W1.heap[X3]? = some (.cells #[.int .i64 x, .int .i64 k, .int .i64 n, .slice Aa ats.length ca, .slice Ak ks.length ck, .slice Al nb cb] 54 (0, 0))
  h7 : W1.heap[X7]? = some (.cells #[.int .i64 k, .int .i64 n, .slice Aa ats.length ca, .slice Ak ks.length ck, .slice Al nb cb] 52 (0, 0))
  ha : AtomsIn W1.heap.size W1 Aa ats
  hac : ats.length ≤ ca
  hk : IntsIn W1.heap.size W1 Ak ks
  hkc : ks.length ≤ ck
  hl : IntsIn W1.heap.size W1 A2 l
  hlc : l.length ≤ c2
section
variable {w W1 : World} {X3 X7 : Nat} {x k n : Int} {Aa Ak Al A2 : Option Addr} {ats : List Atm} {ks : List Int} {ca ck nb cb c2 : Nat} {l : List Int} {out : Int} {V : World}
theorem BCtx.out_ (C : BCtx w W1 X3 X7 x k n Aa Ak Al A2 ats ks ca ck nb cb c2 l) (hV : Below W1.heap.size W1 V) : Below w.heap.size w V := C.bel.trans (hV.mono C.bel.size)
theorem BCtx.cells7 (C : BCtx w W1 X3 X7 x k n Aa Ak Al A2 ats ks ca ck nb cb c2 l) (hV : Below W1.heap.size W1 V) : V.cell? ⟨X7, 0, none⟩ = some (.int .i64 k) ∧ V.cell? ⟨X7, 1, none⟩ = some (.int .i64 n) ∧ V.cell? ⟨X7, 2, none⟩ = some (.slice Aa ats.length ca) ∧ V.cell? ⟨X7, 3, none⟩ = some (.slice Ak ks.length ck) ∧ V.cell? ⟨X7, 4, none⟩ = some (.slice Al nb cb) := by
  have h := (hV.block _ (heap_lt C.h7)).trans C.h7
  exact ⟨by simp [World.cell?, h], by simp [World.cell?, h], by simp [World.cell?, h], by simp [World.cell?, h], by simp [World.cell?, h]⟩
theorem BCtx.cells3 (C : BCtx w W1 X3 X7 x k n Aa Ak Al A2 ats ks ca ck nb cb c2 l) (hV : Below W1.heap.size W1 V) : V.cell? ⟨X3, 0, none⟩ = some (.int .i64 x) ∧ V.cell? ⟨X3, 1, none⟩ = some (.int .i64 k) ∧ V.cell? ⟨X3, 2, none⟩ = some (.int .i64 n) ∧ V.cell? ⟨X3, 3, none⟩ = some (.slice Aa ats.length ca) ∧ V.cell? ⟨X3, 4, none⟩ = some (.slice Ak ks.length ck) ∧ V.cell? ⟨X3, 5, none⟩ = some (.slice Al nb cb) := by
  have h := (hV.block _ (heap_lt C.h3)).trans C.h3
  exact ⟨by simp [World.cell?, h], by simp [World.cell?, h], by simp [World.cell?, h], by simp [World.cell?, h], by simp [World.cell?, h], by simp [World.cell?, h]⟩
theorem BCtx.atoms (C : BCtx w W1 X3 X7 x k n Aa Ak Al A2 ats ks ca ck nb cb c2 l) (hV : Below W1.heap.size W1 V) (j : Nat) (hj : j < ats.length) : ∃ b o, Aa = some ⟨b, o, none⟩ ∧ V.cell? ⟨b, o + j * 2, none⟩ = some (.bool (ats[j]?.getD default).v) ∧ V.cell? ⟨b, o + j * 2 + 1, none⟩ = some (.int .i64 (ats[j]?.getD default).n) := by
  rcases C.ha.2 with h0 | ⟨b, o, h1, h2, h3⟩
  · rw [h0] at hj; simp at hj
  · exact ⟨b, o, h1, (hV.cell (p := ⟨_, _, none⟩) h2).trans (h3 j hj).1, (hV.cell (p := ⟨_, _, none⟩) h2).trans (h3 j hj).2⟩
theorem BCtx.keys (C : BCtx w W1 X3 X7 x k n Aa Ak Al A2 ats ks ca ck nb cb c2 l) (hV : Below W1.heap.size W1 V) (j : Nat) (hj : j < ks.length) : ∃ b o, Ak = some ⟨b, o, none⟩ ∧ (∀ i, i < ks.length → V.cell? ⟨b, o + i, none⟩ = some (.int .i64 (nth ks i))) := by
  obtain ⟨b, o, h1, h2, h3⟩ := C.hk.at_ (by omega)
  exact ⟨b, o, h1, fun i hi => (hV.cell (p := ⟨_, _, none⟩) h2).trans (h3 i hi)⟩
theorem BCtx.known (C : BCtx w W1 X3 X7 x k n Aa Ak Al A2 ats ks ca ck nb cb c2 l) (hV : Below W1.heap.size W1 V) : IntsIn V.heap.size V A2 l := (C.hl.below hV).mono hV.size
theorem getD_at {ats : List Atm} {j : Nat} (h : j < ats.length) : ats[j]? = some (ats[j]?.getD default) := by rw [List.getElem?_eq_getElem h]; rfl
set_option maxRecDepth 100000 in
set_option maxHeartbeats 8000000 in
theorem bd_T33 (C : BCtx w W1 X3 X7 x k n Aa Ak Al A2 ats ks ca ck nb cb c2 l) (hV : Below W1.heap.size W1 V) {A' : Option Addr} {c' : Nat} {l' : List Int} (hl : IntsIn V.heap.size V A' l') (hlc : l'.length ≤ c') (hout : out = if ats.all (asksB l') = false then 16 else 0) (u0 u1 u4 u5 u6 u8 u9 u10 u11 u12 u13 u14 u15 u16 u17 u18 u19 u20 u21 u22 u23 u24 u25 u26 u27 u28 u29 u30 u31 u32 u33 u34 u35 u36 u37 u38 u39 u40 u41 u42 u43 u44 u45 u46 u47 u48 u49 u50 u51 u52 u53 u54 u55 u56 u57 u58 u59 u60 u61 u62 u63 u64 u65 u66 u67 u68 u69 u70 u71 u72 u73 u74 u75 u76 u77 u78 u79 u80 u81 u82 u83 u84 u85 u86 u87 u88 u89 u90 u91 u92 u93 u94 u95 u96 u97 u98 u99 u100 u101 u102 u103 u104 u105 u106 u107 u108 u109 u110 u111 u112 u113 u114 u115 u116 u117 u118 u119 u120 u121 u122 u123 u124 u125 u126 u127 u128 u129 u130 u131 u132 u133 u134 u135 u136 u137 u138 u139 u140 u141 u142 u143 u144 u145 u146 u147 u148 u149 u150 u151 u152 u153 u154 u155 u156 u157 u158 u159 u160 u161 u162 u163 u164 u165 u166 u167 u168 u169 u170 u171 u172 u173 u174 u175 u176 u177 u178 u179 u180 u181 u182 u183 u184 u185 u186 u187 u188 u189 u190 u191 u192 u193 u194 u195 u196 u197 u198 u199 u200 u201 u202 u203 u204 u205 u206 u207 u208 u209 u210 u211 u212 u213 u214 u215 u216 u217 u218 u219 u220 u221 u222 u223 u224 u225 u226 u227 u228 u229 u230 u231 u232 u233 u234 u235 u236 : Value) :
    bdT33.wp Try.prog (bodyPost Try.prog Try.f39 (IntBelow out w)) { tmps := #[u0, u1, .slice A' l'.length c', .pointer (some ⟨X3, 0, none⟩), u4, u5, u6, .pointer (some ⟨X7, 0, none⟩), u8, u9, u10, u11, u12, u13, u14, u15, u16, u17, u18, u19, u20, u21, u22, u23, u24, u25, u26, u27, u28, u29, u30, u31, u32, u33, u34, u35, u36, u37, u38, u39, u40, u41, u42, u43, u44, u45, u46, u47, u48, u49, u50, u51, u52, u53, u54, u55, u56, u57, u58, u59, u60, u61, u62, u63, u64, u65, u66, u67, u68, u69, u70, u71, u72, u73, u74, u75, u76, u77, u78, u79, u80, u81, u82, u83, u84, u85, u86, u87, u88, u89, u90, u91, u92, u93, u94, u95, u96, u97, u98, u99, u100, u101, u102, u103, u104, u105, u106, u107, u108, u109, u110, u111, u112, u113, u114, u115, u116, u117, u118, u119, u120, u121, u122, u123, u124, u125, u126, u127, u128, u129, u130, u131, u132, u133, u134, u135, u136, u137, u138, u139, u140, u141, u142, u143, u144, u145, u146, u147, u148, u149, u150, u151, u152, u153, u154, u155, u156, u157, u158, u159, u160, u161, u162, u163, u164, u165, u166, u167, u168, u169, u170, u171, u172, u173, u174, u175, u176, u177, u178, u179, u180, u181, u182, u183, u184, u185, u186, u187, u188, u189, u190, u191, u192, u193, u194, u195, u196, u197, u198, u199, u200, u201, u202, u203, u204, u205, u206, u207, u208, u209, u210, u211, u212, u213, u214, u215, u216, u217, u218, u219, u220, u221, u222, u223, u224, u225, u226, u227, u228, u229, u230, u231, u232, u233, u234, u235, u236], defers := [] } V := by
  obtain ⟨-, -, q2, -, -⟩ := C.cells7 hV
  have HA := Lib.hid (C.atoms hV)
  have HH := Lib.hid (fun (m : Int) => rhas_any A' c' l' m V hl hlc)
  have HO := Lib.hid hout
  have HB := Lib.hid (C.out_ hV)
  have h16 := C.ha.1
  have hac := C.hac
  clear C hV hl hlc hout
  obtain ⟨L, hL⟩ : ∃ L, ats.length = L := ⟨_, rfl⟩
  have HL := Lib.hid hL
  rw [hL] at q2 HA h16 hac
  clear hL
  generalize l'.length = ll at *
  obtain ⟨Q, hQ⟩ : ∃ Q, (bodyPost Try.prog Try.f39 (IntBelow out w)) = Q := ⟨_, rfl⟩
  have HQ := Lib.hid hQ
  rw [hQ]
  clear hQ
  unfold bdT33 Try.f39
  dsimp only
  go_wp2_with fail
  go_loopw [17] (fun iv wr => ∃ j : Nat, j ≤ L ∧ iv = .int .i64 (j : Int) ∧ V = wr ∧ Hid ((ats.take j).all (asksB l') = true)) (fun iv _ => L + 1 - (intOf iv).toNat)
  case atStart => exact ⟨0, by omega, rfl, rfl, Lib.hid (by simp)⟩
  case round =>
    obtain ⟨j, hj, rfl, rfl, HT⟩ := hrel
    by_cases hlt : j < L
    · obtain ⟨b, o, rfl, y0, y1⟩ := HA.out j hlt
      have e1 : (0 : Int) ≤ (j : Int) := by omega
      have e2 : (j : Int) < (L : Int) := by omega
      have e4 : IntKind.i64.wrap ((j : Int) + 1) = (j : Int) + 1 := by rw [IntKind.wrap_i64]; omega
      have e5 : (L : Int) ≤ (ca : Int) := by omega
      have HG := Lib.hid (getD_at (ats := ats) (j := j) (by rw [HL.out]; exact hlt))
      generalize ats[j]?.getD default = at_ at *
      obtain ⟨v, m⟩ := at_
      simp only [] at y0 y1
      cases v
      · have HT2 := Lib.hid (all_take_succ HG.out HT.out (f := asksB l') rfl)
        go_wp2_with fail
        go_roundw
        case rel => exact ⟨j + 1, by omega, by go_num, (by first | rfl | trivial), HT2⟩
        case measure => simp [intOf]; omega
      · have HM := Lib.hid (HH.out m)
        have HAS := Lib.hid (show asksB l' ⟨true, m⟩ = l'.contains m from rfl)
        generalize l'.contains m = cb_ at *
        cases cb_
        · have HF := Lib.hid (show out = 16 from HO.out.trans (by rw [if_pos (all_false HG.out HAS.out)]))
          go_wp2_with (go_at_call 42; refine HM.out.mono ?_; rintro en w' ⟨rfl, rfl⟩)
          rw [← HQ.out]
          go_ret
          exact ⟨ret_int HF.out.symm, HB.out⟩
        · have HT2 := Lib.hid (all_take_succ HG.out HT.out (f := asksB l') HAS.out)
          go_wp2_with (go_at_call 42; refine HM.out.mono ?_; rintro en w' ⟨rfl, rfl⟩)
          go_roundw
          case rel => exact ⟨j + 1, by omega, by go_num, (by first | rfl | trivial), HT2⟩
          case measure => simp [intOf]; omega
    · have e2 : ¬ (j : Int) < (L : Int) := by omega
      have HF := Lib.hid (show out = 0 from HO.out.trans (by
        have h := HT.out
        rw [List.take_of_length_le (by rw [HL.out]; omega)] at h
        rw [if_neg (by rw [h]; decide)]))
      go_wp2_with fail
      rw [← HQ.out]
      go_ret
      exact ⟨ret_int HF.out.symm, HB.out⟩
end
end Go.Proofs.Ytnobggabjpcbfaa

/-
  camletref30.bind: a group's own variables are laid behind what is known, in whatever order.
-/
set_option linter.unusedVariables false
set_option linter.unusedSimpArgs false
namespace Go.Proofs.Ytnobggabjpcbfaa
open Go.RowKit Go.Maps

open Go.Proofs.YtnobggabjpcbfaaW.PrintWords Go.Proofs.YtnobggabjpcbfaaW.PrintLast
theorem ints_rowI {B : Nat} {w : World} {A : Option Addr} {ks : List Int} (h : IntsIn B w A ks) : RowI w A (iv ks) := ints_row h
theorem ints_grown {w w' : World} {A : Option Addr} {ks : List Int} {row : Option Nat} (h : IntsIn w.heap.size w A ks) (hg : w.grownBy w' row) (hne : ∀ a, A = some a → ks ≠ [] → row ≠ some a.block) : IntsIn w'.heap.size w' A ks := by
  refine ⟨h.1, ?_⟩
  by_cases h0 : ks = []
  · exact .inl h0
  · rcases h.2 with h1 | ⟨b, o, rfl, hlt, hc⟩
    · exact absurd h1 h0
    · refine .inr ⟨b, o, rfl, Nat.lt_of_lt_of_le hlt hg.size, fun j hj => (cell_of_heap (hg.block b hlt (fun e => hne _ rfl h0 e.symm)) _).trans (hc j hj)⟩
structure RS (V : World) (l g : List Int) (b : Nat → Bool) (vE v1 : Value) (Ag A3 : Option Addr) (c3 : Nat) (w : World) : Prop where
  bel : Below V.heap.size V w
  o5 : b 5 = true → b 2 = true ∧ b 4 = true
  e0 : b 0 = true → b 2 = false → w.ownsRow V.heap.size 3 1 vE 0 []
  e1 : b 2 = true → b 5 = false → w.ownsRow V.heap.size 3 1 v1 l.length (iv l)
  g4 : b 4 = true → b 5 = false → IntsIn w.heap.size w Ag g
  d0 : b 0 = true → b 2 = false → b 4 = true → ∀ a, Ag = some a → g ≠ [] → vE.ownBlock ≠ some a.block
  e2 : b 5 = true → IntsIn w.heap.size w A3 (l ++ g) ∧ (l ++ g).length ≤ c3
theorem RS.start {V w : World} {l g : List Int} (hb : Below V.heap.size V w) : RS V l g (fun _ => false) (.bool false) (.bool false) none none 0 w :=
  ⟨hb, fun h => Bool.noConfusion h, fun h => Bool.noConfusion h, fun h => Bool.noConfusion h, fun h => Bool.noConfusion h, fun h => Bool.noConfusion h, fun h => Bool.noConfusion h⟩
section
variable {V w w' : World} {l g : List Int} {b : Nat → Bool} {vE v1 : Value} {Ag A3 : Option Addr} {c3 : Nat}
theorem RS.pass (h : RS V l g b vE v1 Ag A3 c3 w) {i : Nat} (hi : i = 1 ∨ i = 3 ∨ i = 6) : RS V l g (up b i) vE v1 Ag A3 c3 w := by
  have e : ∀ j, j = 0 ∨ j = 2 ∨ j = 4 ∨ j = 5 → up b i j = b j := fun j hj => up_ne (by omega)
  have g0 := e 0 (by omega)
  have g2 := e 2 (by omega)
  have g4 := e 4 (by omega)
  have g5 := e 5 (by omega)
  constructor
  · exact h.bel
  · rw [g5, g2, g4]; exact h.o5
  · rw [g0, g2]; exact h.e0
  · rw [g2, g5]; exact h.e1
  · rw [g4, g5]; exact h.g4
  · rw [g0, g2, g4]; exact h.d0
  · rw [g5]; exact h.e2
theorem RS.row (h : RS V l g b vE v1 Ag A3 c3 w) (h2 : b 2 = false) (h5 : b 5 = false) : RS V l g (up b 0) (.slice (some ⟨w.heap.size, 0, none⟩) 0 0) v1 Ag A3 c3 (w.alloc (.cells #[] 3)) := by
  have hb : Below w.heap.size w (w.alloc (.cells #[] 3)) := (Below.refl _ _).alloc (Nat.le_refl _) _
  have g : ∀ j, j ≠ 0 → up b 0 j = b j := fun j hj => up_ne hj
  constructor
  · exact h.bel.trans (hb.mono h.bel.size)
  · rw [g 5 (by decide), h5]; exact fun k => Bool.noConfusion k
  · exact fun _ _ => own_empty w h.bel.size _ _
  · rw [g 2 (by decide), h2]; exact fun k => Bool.noConfusion k
  · rw [g 4 (by decide), g 5 (by decide)]; exact fun k1 k2 => ((h.g4 k1 k2).below hb).mono hb.size
  · rw [g 4 (by decide)]
    intro _ _ k4 a ha hg
    rcases (h.g4 k4 h5).2 with h0 | ⟨bb, o, h0, hlt, _⟩
    · exact absurd h0 hg
    · rw [h0] at ha
      cases ha
      simp only [Value.ownBlock, ne_eq, Option.some.injEq]
      omega
  · rw [g 5 (by decide), h5]; exact fun k => Bool.noConfusion k
theorem RS.app1 (h : RS V l g b vE v1 Ag A3 c3 w) (h0 : b 0 = true) (h2 : b 2 = false) {v' : Value} (hown : w'.ownsRow V.heap.size 3 1 v' l.length (iv l)) (hg : w.grownBy w' vE.ownBlock) : RS V l g (up b 2) vE v' Ag A3 c3 w' := by
  have g : ∀ j, j ≠ 2 → up b 2 j = b j := fun j hj => up_ne hj
  have h5 : b 5 = false := by
    cases hc : b 5 with
    | false => rfl
    | true => rw [(h.o5 hc).1] at h2; cases h2
  constructor
  · exact grown_below h.bel hg (own_ge (h.e0 h0 h2))
  · rw [g 5 (by decide), h5]; exact fun k => Bool.noConfusion k
  · rw [up_self]; exact fun _ k => Bool.noConfusion k
  · exact fun _ _ => hown
  · rw [g 4 (by decide), g 5 (by decide)]; exact fun k1 k2 => ints_grown (h.g4 k1 k2) hg (h.d0 h0 h2 k1)
  · rw [up_self]; exact fun _ k => Bool.noConfusion k
  · rw [g 5 (by decide), h5]; exact fun k => Bool.noConfusion k
theorem RS.vars (h : RS V l g b vE v1 Ag A3 c3 w) (h5 : b 5 = false) (hb : Below w.heap.size w w') {Ag' : Option Addr} (hgi : IntsIn w'.heap.size w' Ag' g) (hlo : ∀ a, Ag' = some a → w.heap.size ≤ a.block) : RS V l g (up b 4) vE v1 Ag' A3 c3 w' := by
  have e : ∀ j, j ≠ 4 → up b 4 j = b j := fun j hj => up_ne hj
  have hsame : ∀ {v : Value} {n : Nat} {xs : List Value}, w.ownsRow V.heap.size 3 1 v n xs → w'.ownsRow V.heap.size 3 1 v n xs := fun ho => ownsRow_same ho (fun q hq => hb.block q (own_lt_ ho q hq))
  constructor
  · exact h.bel.trans (hb.mono h.bel.size)
  · rw [e 5 (by decide), h5]; exact fun k => Bool.noConfusion k
  · rw [e 0 (by decide), e 2 (by decide)]; exact fun k1 k2 => hsame (h.e0 k1 k2)
  · rw [e 2 (by decide), e 5 (by decide)]; exact fun k1 k2 => hsame (h.e1 k1 k2)
  · exact fun _ _ => hgi
  · rw [e 0 (by decide), e 2 (by decide)]
    intro k0 k2 _ a ha _ hq
    have h1 := hlo a ha
    have h2 := own_lt_ (h.e0 k0 k2) _ hq
    omega
  · rw [e 5 (by decide), h5]; exact fun k => Bool.noConfusion k
theorem RS.app2 (h : RS V l g b vE v1 Ag A3 c3 w) (h2 : b 2 = true) (h4 : b 4 = true) (h5 : b 5 = false) {A4 : Option Addr} {c4 : Nat} (hin : IntsIn w'.heap.size w' A4 (l ++ g)) (hc : (l ++ g).length ≤ c4) (hg : w.grownBy w' v1.ownBlock) : RS V l g (up b 5) vE v1 Ag A4 c4 w' := by
  have e : ∀ j, j ≠ 5 → up b 5 j = b j := fun j hj => up_ne hj
  constructor
  · exact grown_below h.bel hg (own_ge (h.e1 h2 h5))
  · rw [e 2 (by decide), e 4 (by decide)]; exact fun _ => ⟨h2, h4⟩
  · rw [e 2 (by decide), h2]; exact fun _ k => Bool.noConfusion k
  · rw [up_self]; exact fun _ k => Bool.noConfusion k
  · rw [up_self]; exact fun _ k => Bool.noConfusion k
  · rw [e 2 (by decide), h2]; exact fun _ k => Bool.noConfusion k
  · exact fun _ => ⟨hin, hc⟩
end
set_option maxRecDepth 100000 in
set_option maxHeartbeats 8000000 in
theorem bd_region32 {w V : World} {X3 X7 na nb ca ck cb c2 LL : Nat} {k n out : Int} {Aa Ak Al A2 : Option Addr} {ks l g : List Int} (hLL : l.length = LL) (hl : IntsIn V.heap.size V A2 l) (hlc : l.length ≤ c2) (hsum : (l ++ g).length * 8 ≤ 140737488351232) (hgv : groupV ks = g)
    (hS : ∀ V2, Below V.heap.size V V2 → V2.cell? ⟨X7, 0, none⟩ = some (.int .i64 k) ∧ V2.cell? ⟨X7, 1, none⟩ = some (.int .i64 n) ∧ V2.cell? ⟨X7, 2, none⟩ = some (.slice Aa na ca) ∧ V2.cell? ⟨X7, 3, none⟩ = some (.slice Ak ks.length ck) ∧ V2.cell? ⟨X7, 4, none⟩ = some (.slice Al nb cb)) (hk : IntsIn V.heap.size V Ak ks) (hkc : ks.length ≤ ck)
    (hend : ∀ (V2 : World) (A3 : Option Addr) (c3 : Nat), Below V.heap.size V V2 → IntsIn V2.heap.size V2 A3 (l ++ g) → (l ++ g).length ≤ c3 → ∀ (y0 y1 y4 y5 y6 y8 y9 y10 y11 y12 y13 y14 y15 y16 y17 y18 y19 y20 y21 y22 y23 y24 y25 y26 y27 y28 y29 y30 y31 y32 y33 y34 y35 y36 y37 y38 y39 y40 y41 y42 y43 y44 y45 y46 y47 y48 y49 y50 y51 y52 y53 y54 y55 y56 y57 y58 y59 y60 y61 y62 y63 y64 y65 y66 y67 y68 y69 y70 y71 y72 y73 y74 y75 y76 y77 y78 y79 y80 y81 y82 y83 y84 y85 y86 y87 y88 y89 y90 y91 y92 y93 y94 y95 y96 y97 y98 y99 y100 y101 y102 y103 y104 y105 y106 y107 y108 y109 y110 y111 y112 y113 y114 y115 y116 y117 y118 y119 y120 y121 y122 y123 y124 y125 y126 y127 y128 y129 y130 y131 y132 y133 y134 y135 y136 y137 y138 y139 y140 y141 y142 y143 y144 y145 y146 y147 y148 y149 y150 y151 y152 y153 y154 y155 y156 y157 y158 y159 y160 y161 y162 y163 y164 y165 y166 y167 y168 y169 y170 y171 y172 y173 y174 y175 y176 y177 y178 y179 y180 y181 y182 y183 y184 y185 y186 y187 y188 y189 y190 y191 y192 y193 y194 y195 y196 y197 y198 y199 y200 y201 y202 y203 y204 y205 y206 y207 y208 y209 y210 y211 y212 y213 y214 y215 y216 y217 y218 y219 y220 y221 y222 y223 y224 y225 y226 y227 y228 y229 y230 y231 y232 y233 y234 y235 y236 : Value), bdT33.wp Try.prog (bodyPost Try.prog Try.f39 (IntBelow out w)) { tmps := #[y0, y1, .slice A3 (l ++ g).length c3, .pointer (some ⟨X3, 0, none⟩), y4, y5, y6, .pointer (some ⟨X7, 0, none⟩), y8, y9, y10, y11, y12, y13, y14, y15, y16, y17, y18, y19, y20, y21, y22, y23, y24, y25, y26, y27, y28, y29, y30, y31, y32, y33, y34, y35, y36, y37, y38, y39, y40, y41, y42, y43, y44, y45, y46, y47, y48, y49, y50, y51, y52, y53, y54, y55, y56, y57, y58, y59, y60, y61, y62, y63, y64, y65, y66, y67, y68, y69, y70, y71, y72, y73, y74, y75, y76, y77, y78, y79, y80, y81, y82, y83, y84, y85, y86, y87, y88, y89, y90, y91, y92, y93, y94, y95, y96, y97, y98, y99, y100, y101, y102, y103, y104, y105, y106, y107, y108, y109, y110, y111, y112, y113, y114, y115, y116, y117, y118, y119, y120, y121, y122, y123, y124, y125, y126, y127, y128, y129, y130, y131, y132, y133, y134, y135, y136, y137, y138, y139, y140, y141, y142, y143, y144, y145, y146, y147, y148, y149, y150, y151, y152, y153, y154, y155, y156, y157, y158, y159, y160, y161, y162, y163, y164, y165, y166, y167, y168, y169, y170, y171, y172, y173, y174, y175, y176, y177, y178, y179, y180, y181, y182, y183, y184, y185, y186, y187, y188, y189, y190, y191, y192, y193, y194, y195, y196, y197, y198, y199, y200, y201, y202, y203, y204, y205, y206, y207, y208, y209, y210, y211, y212, y213, y214, y215, y216, y217, y218, y219, y220, y221, y222, y223, y224, y225, y226, y227, y228, y229, y230, y231, y232, y233, y234, y235, y236], defers := [] } V2) (u0 u1 u4 u5 u6 u8 u9 u10 u11 u12 u13 u14 u15 u16 u17 u18 u19 u20 u21 u22 u23 u24 u25 u26 u27 u28 u29 u30 u31 u32 u33 u34 u35 u36 u37 u38 u39 u40 u41 u42 u43 u44 u45 u46 u47 u48 u49 u50 u51 u52 u53 u54 u55 u56 u57 u58 u59 u60 u61 u62 u63 u64 u65 u66 u67 u68 u69 u70 u71 u72 u73 u74 u75 u76 u77 u78 u79 u80 u81 u82 u83 u84 u85 u86 u87 u88 u89 u90 u91 u92 u93 u94 u95 u96 u97 u98 u99 u100 u101 u102 u103 u104 u105 u106 u107 u108 u109 u110 u111 u112 u113 u114 u115 u116 u117 u118 u119 u120 u121 u122 u123 u124 u125 u126 u127 u128 u129 u130 u131 u132 u133 u134 u135 u136 u137 u138 u139 u140 u141 u142 u143 u144 u145 u146 u147 u148 u149 u150 u151 u152 u153 u154 u155 u156 u157 u158 u159 u160 u161 u162 u163 u164 u165 u166 u167 u168 u169 u170 u171 u172 u173 u174 u175 u176 u177 u178 u179 u180 u181 u182 u183 u184 u185 u186 u187 u188 u189 u190 u191 u192 u193 u194 u195 u196 u197 u198 u199 u200 u201 u202 u203 u204 u205 u206 u207 u208 u209 u210 u211 u212 u213 u214 u215 u216 u217 u218 u219 u220 u221 u222 u223 u224 u225 u226 u227 u228 u229 u230 u231 u232 u233 u234 u235 u236 : Value) :
    ∀ K : Act → World → Prop, (∀ a w2, bdT33.wp Try.prog (bodyPost Try.prog Try.f39 (IntBelow out w)) a w2 → K a w2) → bdR32.wp Try.prog (Exit.then K (bodyPost Try.prog Try.f39 (IntBelow out w))) { tmps := #[u0, u1, .slice A2 LL c2, .pointer (some ⟨X3, 0, none⟩), u4, u5, u6, .pointer (some ⟨X7, 0, none⟩), u8, u9, u10, u11, u12, u13, u14, u15, u16, u17, u18, u19, u20, u21, u22, u23, u24, u25, u26, u27, u28, u29, u30, u31, u32, u33, u34, u35, u36, u37, u38, u39, u40, u41, u42, u43, u44, u45, u46, u47, u48, u49, u50, u51, u52, u53, u54, u55, u56, u57, u58, u59, u60, u61, u62, u63, u64, u65, u66, u67, u68, u69, u70, u71, u72, u73, u74, u75, u76, u77, u78, u79, u80, u81, u82, u83, u84, u85, u86, u87, u88, u89, u90, u91, u92, u93, u94, u95, u96, u97, u98, u99, u100, u101, u102, u103, u104, u105, u106, u107, u108, u109, u110, u111, u112, u113, u114, u115, u116, u117, u118, u119, u120, u121, u122, u123, u124, u125, u126, u127, u128, u129, u130, u131, u132, u133, u134, u135, u136, u137, u138, u139, u140, u141, u142, u143, u144, u145, u146, u147, u148, u149, u150, u151, u152, u153, u154, u155, u156, u157, u158, u159, u160, u161, u162, u163, u164, u165, u166, u167, u168, u169, u170, u171, u172, u173, u174, u175, u176, u177, u178, u179, u180, u181, u182, u183, u184, u185, u186, u187, u188, u189, u190, u191, u192, u193, u194, u195, u196, u197, u198, u199, u200, u201, u202, u203, u204, u205, u206, u207, u208, u209, u210, u211, u212, u213, u214, u215, u216, u217, u218, u219, u220, u221, u222, u223, u224, u225, u226, u227, u228, u229, u230, u231, u232, u233, u234, u235, u236], defers := [] } V := by
  intro K hK0
  have HK0 := Lib.hid hK0
  have HEND := Lib.hid hend
  have HS := Lib.hid hS
  have HPRE := Lib.hid (fun (V2 : World) (h : Below V.heap.size V V2) => ints_rowI (hl.below h))
  have HVAR := Lib.hid (fun (V2 : World) (h : Below V.heap.size V V2) => (show Calls Try.prog 40 #[.agg #[.int .i64 k, .int .i64 n, .slice Aa na ca, .slice Ak ks.length ck, .slice Al nb cb]] V2 fun e w' => ∃ A c, e = .returned (.slice A g.length c) ∧ IntsIn w'.heap.size w' A g ∧ g.length ≤ c ∧ (∀ a, A = some a → V2.heap.size ≤ a.block) ∧ Below V2.heap.size V2 w' from hgv ▸ rvars_any k n Aa Ak Al na ca ck nb cb ks V2 ((hk.below h).mono h.size) hkc))
  have D0 := Lib.hid (show Below V.heap.size V V.drew from (Below.refl _ _).drew)
  have hl1 : (iv l).length = LL * 1 := by simp [iv, hLL]
  have hl2 : (iv g).length = g.length * 1 := by simp [iv]
  have hal8 := hsum
  have hlg : (l ++ g).length = LL + g.length := by simp [hLL]
  rw [hlg] at hsum
  obtain ⟨inf0, hinf, hz0, hz1, hz2⟩ := info_parts infoI
  clear hK0 hend hS hl hk hgv hlg
  unfold bdR32 Try.f39
  dsimp only
  refine start_ (n := 7) (S := fun w' => True) (ds := []) #[false, false, false, false, false, false, false] (by kernel_rfl) rfl rfl trivial (fun hHeld => ?_)
  clear hHeld
  refine inv_at (B := [0, 0, 3, 0, 8, 31, 63]) [0, 1, 2, 3, 4, 5, 6] (fun a0_ b a w' => ∃ vE v1 Ag cg A3 c3, a = putSel a0_ b [(0, 207, vE), (1, 208, .slice A2 LL c2), (2, 209, v1), (3, 210, .agg #[.int .i64 k, .int .i64 n, .slice Aa na ca, .slice Ak ks.length ck, .slice Al nb cb]), (4, 211, .slice Ag g.length cg), (5, 212, .slice A3 (l ++ g).length c3), (6, 2, .slice A3 (l ++ g).length c3)] ∧ RS V l g b vE v1 Ag A3 c3 w') rfl (by kernel_rfl) (by kernel_rfl) (by kernel_rfl) ?_ ?_ ?_
  · exact ⟨.bool false, .bool false, none, 0, none, 0, by simp only [putSel, Bool.false_eq_true, if_false], RS.start D0.out⟩
  · skip
    refine steps_cons ?_ ?_
    · rintro b a w' ⟨vE, v1, Ag, cg, A3, c3, ha, hI⟩ hb_ hon hoff
      refine ⟨_, rfl, fun K hK => ?_⟩
      replace ha := Lib.hid ha
      have HI := Lib.hid hI
      clear hI
      refine value_ (w1 := w'.alloc (.cells #[] 3)) (v := .slice (some ⟨w'.heap.size, 0, none⟩) 0 0) (by rfl) rfl ?_ ?_
      · go_simp
        try rfl
      exact hK.out _ _ ⟨.slice (some ⟨w'.heap.size, 0, none⟩) 0 0, v1, Ag, cg, A3, c3, (by rw [ha.out]; exact putSel_upk 0 hb_ rfl rfl rfl), HI.out.row (hoff 2 (by kernel_rfl)) (hoff 5 (by kernel_rfl))⟩
    refine steps_cons ?_ ?_
    · rintro b a w' ⟨vE, v1, Ag, cg, A3, c3, ha, hI⟩ hb_ hon hoff
      refine ⟨_, rfl, fun K hK => ?_⟩
      have e2 : a.tmps[2]? = some (.slice A2 LL c2) := by rw [ha]; exact (putSel_not (hoff 6 (by kernel_rfl)) rfl).trans rfl
      replace ha := Lib.hid ha
      have HI := Lib.hid hI
      clear hI
      refine value_ (w1 := w') (v := .slice A2 LL c2) (by rfl) rfl ?_ ?_
      · go_simp
        try rfl
      exact hK.out _ _ ⟨vE, v1, Ag, cg, A3, c3, (by rw [ha.out]; exact putSel_upk 1 hb_ rfl rfl rfl), HI.out.pass (by omega)⟩
    refine steps_cons ?_ ?_
    · rintro b a w' ⟨vE, v1, Ag, cg, A3, c3, ha, hI⟩ hb_ hon hoff
      refine ⟨_, rfl, fun K hK => ?_⟩
      have e207 : a.tmps[207]? = some (vE) := by rw [ha]; exact putSel_on (e := (0, 207, vE)) 0 rfl rfl (hon 0 (by kernel_rfl)) rfl
      have e208 : a.tmps[208]? = some (.slice A2 LL c2) := by rw [ha]; exact putSel_on (e := (1, 208, .slice A2 LL c2)) 1 rfl rfl (hon 1 (by kernel_rfl)) rfl
      replace ha := Lib.hid ha
      have HI := Lib.hid hI
      clear hI
      rw [if_pos (by rfl)]
      refine wp_append_row _ _ _ 30 rfl V.heap.size 3 inf0 _ 1 8 Try.underlying30 hinf hz0 hz1 hz2 rfl (by decide) _ 0 [] (by first | (simp only [Act.eval, Array.getD_eq_getD_getElem?, Option.getD_some, e207]; done) | (simp only [Act.eval, Array.getD_eq_getD_getElem?, Option.getD_some, e207]; rfl)) (HI.out.e0 (hon 0 (by kernel_rfl)) hb_) A2 LL c2 (iv l) (by first | (simp only [Act.eval, Array.getD_eq_getD_getElem?, Option.getD_some, e208]; done) | (simp only [Act.eval, Array.getD_eq_getD_getElem?, Option.getD_some, e208]; rfl)) hl1 (HPRE.out _ HI.out.bel) (iv_one _) (by simp only [maxLen]; omega) (by omega) HI.out.bel.size ?_
      intro v' w2 hown hgr hat
      have hown' := own_size (show l.length = 0 + LL by omega) hown
      exact hK.out _ _ ⟨vE, v', Ag, cg, A3, c3, (by rw [ha.out]; exact putSel_upk 2 hb_ rfl rfl rfl), HI.out.app1 (hon 0 (by kernel_rfl)) hb_ hown' hgr⟩
    refine steps_cons ?_ ?_
    · rintro b a w' ⟨vE, v1, Ag, cg, A3, c3, ha, hI⟩ hb_ hon hoff
      refine ⟨_, rfl, fun K hK => ?_⟩
      have e7 : a.tmps[7]? = some (.pointer (some ⟨X7, 0, none⟩)) := by rw [ha]; exact (putSel_off rfl).trans rfl
      obtain ⟨z0, z1, z2, z3, z4⟩ := HS.out w' hI.bel
      replace ha := Lib.hid ha
      have HI := Lib.hid hI
      clear hI
      refine value_ (w1 := w') (v := .agg #[.int .i64 k, .int .i64 n, .slice Aa na ca, .slice Ak ks.length ck, .slice Al nb cb]) (by rfl) rfl ?_ ?_
      · go_simp
        try rfl
      exact hK.out _ _ ⟨vE, v1, Ag, cg, A3, c3, (by rw [ha.out]; exact putSel_upk 3 hb_ rfl rfl rfl), HI.out.pass (by omega)⟩
    refine steps_cons ?_ ?_
    · rintro b a w' ⟨vE, v1, Ag, cg, A3, c3, ha, hI⟩ hb_ hon hoff
      refine ⟨_, rfl, fun K hK => ?_⟩
      have e210 : a.tmps[210]? = some (.agg #[.int .i64 k, .int .i64 n, .slice Aa na ca, .slice Ak ks.length ck, .slice Al nb cb]) := by rw [ha]; exact putSel_on (e := (3, 210, .agg #[.int .i64 k, .int .i64 n, .slice Aa na ca, .slice Ak ks.length ck, .slice Al nb cb])) 3 rfl rfl (hon 3 (by kernel_rfl)) rfl
      replace ha := Lib.hid ha
      have HI := Lib.hid hI
      clear hI
      refine goes_ Try.func40 (by kernel_rfl) rfl #[.agg #[.int .i64 k, .int .i64 n, .slice Aa na ca, .slice Ak ks.length ck, .slice Al nb cb]] (by rfl) rfl rfl (by first | (simp only [List.map_toArray, List.map_cons, List.map_nil, Act.eval, Array.getD_eq_getD_getElem?, Option.getD_some, e210]; done) | (simp only [List.map_toArray, List.map_cons, List.map_nil, Act.eval, Array.getD_eq_getD_getElem?, Option.getD_some, e210]; rfl)) ?_
      refine (HVAR.out w' HI.out.bel).mono ?_
      rintro e w2 ⟨Ag', cg', rfl, hgi, hgc, hglo, hb2⟩
      exact ⟨_, rfl, hK.out _ _ ⟨vE, v1, Ag', cg', A3, c3, (by rw [ha.out]; exact putSel_upk 4 hb_ rfl rfl rfl), HI.out.vars (hoff 5 (by kernel_rfl)) hb2 hgi hglo⟩⟩
    refine steps_cons ?_ ?_
    · rintro b a w' ⟨vE, v1, Ag, cg, A3, c3, ha, hI⟩ hb_ hon hoff
      refine ⟨_, rfl, fun K hK => ?_⟩
      have e209 : a.tmps[209]? = some (v1) := by rw [ha]; exact putSel_on (e := (2, 209, v1)) 2 rfl rfl (hon 2 (by kernel_rfl)) rfl
      have e211 : a.tmps[211]? = some (.slice Ag g.length cg) := by rw [ha]; exact putSel_on (e := (4, 211, .slice Ag g.length cg)) 4 rfl rfl (hon 4 (by kernel_rfl)) rfl
      have o6 : b 6 = false := hoff 6 (by kernel_rfl)
      replace ha := Lib.hid ha
      have HI := Lib.hid hI
      clear hI
      rw [if_pos (by rfl)]
      refine wp_append_row _ _ _ 30 rfl V.heap.size 3 inf0 _ 1 8 Try.underlying30 hinf hz0 hz1 hz2 rfl (by decide) _ l.length (iv l) (by first | (simp only [Act.eval, Array.getD_eq_getD_getElem?, Option.getD_some, e209]; done) | (simp only [Act.eval, Array.getD_eq_getD_getElem?, Option.getD_some, e209]; rfl)) (HI.out.e1 (hon 2 (by kernel_rfl)) hb_) Ag g.length cg (iv g) (by first | (simp only [Act.eval, Array.getD_eq_getD_getElem?, Option.getD_some, e211]; done) | (simp only [Act.eval, Array.getD_eq_getD_getElem?, Option.getD_some, e211]; rfl)) hl2 (ints_rowI (HI.out.g4 (hon 4 (by kernel_rfl)) hb_)) (iv_one _) (by simp only [maxLen]; omega) (by omega) HI.out.bel.size ?_
      intro v' w2 hown hgr hat
      have hown' : w2.ownsRow V.heap.size 3 1 v' (l ++ g).length (iv (l ++ g)) := by simpa [iv] using hown
      obtain ⟨A4, c4, rfl, hi3, hc3, -⟩ := own_intsS hown' hal8
      exact hK.out _ _ ⟨vE, v1, Ag, cg, A4, c4, (by rw [ha.out, putSel_dep (L' := [(0, 207, vE), (1, 208, .slice A2 LL c2), (2, 209, v1), (3, 210, .agg #[.int .i64 k, .int .i64 n, .slice Aa na ca, .slice Ak ks.length ck, .slice Al nb cb]), (4, 211, .slice Ag g.length cg), (5, 212, .slice A3 (l ++ g).length c3), (6, 2, .slice A4 (l ++ g).length c4)]) (.same (.same (.same (.same (.same (.same (.turn o6 .nil)))))))]; exact putSel_upk 5 hb_ rfl rfl rfl), HI.out.app2 (hon 2 (by kernel_rfl)) (hon 4 (by kernel_rfl)) hb_ hi3 hc3 hgr⟩
    refine steps_cons ?_ ?_
    · rintro b a w' ⟨vE, v1, Ag, cg, A3, c3, ha, hI⟩ hb_ hon hoff
      refine ⟨_, rfl, fun K hK => ?_⟩
      have e212 : a.tmps[212]? = some (.slice A3 (l ++ g).length c3) := by rw [ha]; exact putSel_on (e := (5, 212, .slice A3 (l ++ g).length c3)) 5 rfl rfl (hon 5 (by kernel_rfl)) rfl
      replace ha := Lib.hid ha
      have HI := Lib.hid hI
      clear hI
      refine value_ (w1 := w') (v := .slice A3 (l ++ g).length c3) (by rfl) rfl ?_ ?_
      · go_simp
        try rfl
      exact hK.out _ _ ⟨vE, v1, Ag, cg, A3, c3, (by rw [ha.out]; exact putSel_upk 6 hb_ rfl rfl rfl), HI.out.pass (by omega)⟩
    exact steps_nil
  rintro b a w' hall ⟨vE, v1, Ag, cg, A3, c3, ha, hI⟩
  have hl : ∀ j, j ≤ 6 → b j = true := fun j hj => hall j (by
    have : j = 0 ∨ j = 1 ∨ j = 2 ∨ j = 3 ∨ j = 4 ∨ j = 5 ∨ j = 6 := by omega
    rcases this with rfl | rfl | rfl | rfl | rfl | rfl | rfl <;> rfl)
  have b0 := hl 0 (by decide)
  have b1 := hl 1 (by decide)
  have b2 := hl 2 (by decide)
  have b3 := hl 3 (by decide)
  have b4 := hl 4 (by decide)
  have b5 := hl 5 (by decide)
  have b6 := hl 6 (by decide)
  obtain ⟨g1, g2⟩ := hI.e2 b5
  subst ha
  simp only [putSel, b0, b1, b2, b3, b4, b5, b6, if_true, Act.put, List.setIfInBounds_toArray, List.set_cons_zero, List.set_cons_succ, Exit.then]
  exact HK0.out _ _ (HEND.out _ A3 c3 hI.bel g1 g2 _ _ _ _ _ _ _ _ _ _ _ _ _ _ _ _ _ _ _ _ _ _ _ _ _ _ _ _ _ _ _ _ _ _ _ _ _ _ _ _ _ _ _ _ _ _ _ _ _ _ _ _ _ _ _ _ _ _ _ _ _ _ _ _ _ _ _ _ _ _ _ _ _ _ _ _ _ _ _ _ _ _ _ _ _ _ _ _ _ _ _ _ _ _ _ _ _ _ _ _ _ _ _ _ _ _ _ _ _ _ _ _ _ _ _ _ _ _ _ _ _ _ _ _ _ _ _ _ _ _ _ _ _ _ _ _ _ _ _ _ _ _ _ _ _ _ _ _ _ _ _ _ _ _ _ _ _ _ _ _ _ _ _ _ _ _ _ _ _ _ _ _ _ _ _ _ _ _ _ _ _ _ _ _ _ _ _ _ _ _ _ _ _ _ _ _ _ _ _ _ _ _ _ _ _ _ _ _ _ _ _ _ _ _ _ _ _ _ _ _ _ _ _ _ _ _ _ _ _ _ _ _ _ _)
section
variable {w W1 : World} {X3 X7 : Nat} {x k n : Int} {Aa Ak Al A2 : Option Addr} {ats : List Atm} {ks : List Int} {ca ck nb cb c2 : Nat} {l : List Int} {out : Int} {V : World}
set_option maxRecDepth 100000 in
set_option maxHeartbeats 8000000 in
theorem bd_T31 (C : BCtx w W1 X3 X7 x k n Aa Ak Al A2 ats ks ca ck nb cb c2 l) (hV : Below W1.heap.size W1 V) (hsm : (l.length + ks.length) * 8 ≤ 140737488351232) (hout : out = if ats.all (asksB (if k = 10 then l ++ groupV ks else l)) = false then 16 else 0) (u0 u1 u4 u5 u6 u8 u9 u10 u11 u12 u13 u14 u15 u16 u17 u18 u19 u20 u21 u22 u23 u24 u25 u26 u27 u28 u29 u30 u31 u32 u33 u34 u35 u36 u37 u38 u39 u40 u41 u42 u43 u44 u45 u46 u47 u48 u49 u50 u51 u52 u53 u54 u55 u56 u57 u58 u59 u60 u61 u62 u63 u64 u65 u66 u67 u68 u69 u70 u71 u72 u73 u74 u75 u76 u77 u78 u79 u80 u81 u82 u83 u84 u85 u86 u87 u88 u89 u90 u91 u92 u93 u94 u95 u96 u97 u98 u99 u100 u101 u102 u103 u104 u105 u106 u107 u108 u109 u110 u111 u112 u113 u114 u115 u116 u117 u118 u119 u120 u121 u122 u123 u124 u125 u126 u127 u128 u129 u130 u131 u132 u133 u134 u135 u136 u137 u138 u139 u140 u141 u142 u143 u144 u145 u146 u147 u148 u149 u150 u151 u152 u153 u154 u155 u156 u157 u158 u159 u160 u161 u162 u163 u164 u165 u166 u167 u168 u169 u170 u171 u172 u173 u174 u175 u176 u177 u178 u179 u180 u181 u182 u183 u184 u185 u186 u187 u188 u189 u190 u191 u192 u193 u194 u195 u196 u197 u198 u199 u200 u201 u202 u203 u204 u205 u206 u207 u208 u209 u210 u211 u212 u213 u214 u215 u216 u217 u218 u219 u220 u221 u222 u223 u224 u225 u226 u227 u228 u229 u230 u231 u232 u233 u234 u235 u236 : Value) :
    bdT31.wp Try.prog (bodyPost Try.prog Try.f39 (IntBelow out w)) { tmps := #[u0, u1, .slice A2 l.length c2, .pointer (some ⟨X3, 0, none⟩), u4, u5, u6, .pointer (some ⟨X7, 0, none⟩), u8, u9, u10, u11, u12, u13, u14, u15, u16, u17, u18, u19, u20, u21, u22, u23, u24, u25, u26, u27, u28, u29, u30, u31, u32, u33, u34, u35, u36, u37, u38, u39, u40, u41, u42, u43, u44, u45, u46, u47, u48, u49, u50, u51, u52, u53, u54, u55, u56, u57, u58, u59, u60, u61, u62, u63, u64, u65, u66, u67, u68, u69, u70, u71, u72, u73, u74, u75, u76, u77, u78, u79, u80, u81, u82, u83, u84, u85, u86, u87, u88, u89, u90, u91, u92, u93, u94, u95, u96, u97, u98, u99, u100, u101, u102, u103, u104, u105, u106, u107, u108, u109, u110, u111, u112, u113, u114, u115, u116, u117, u118, u119, u120, u121, u122, u123, u124, u125, u126, u127, u128, u129, u130, u131, u132, u133, u134, u135, u136, u137, u138, u139, u140, u141, u142, u143, u144, u145, u146, u147, u148, u149, u150, u151, u152, u153, u154, u155, u156, u157, u158, u159, u160, u161, u162, u163, u164, u165, u166, u167, u168, u169, u170, u171, u172, u173, u174, u175, u176, u177, u178, u179, u180, u181, u182, u183, u184, u185, u186, u187, u188, u189, u190, u191, u192, u193, u194, u195, u196, u197, u198, u199, u200, u201, u202, u203, u204, u205, u206, u207, u208, u209, u210, u211, u212, u213, u214, u215, u216, u217, u218, u219, u220, u221, u222, u223, u224, u225, u226, u227, u228, u229, u230, u231, u232, u233, u234, u235, u236], defers := [] } V := by
  obtain ⟨q0, -, -, -, -⟩ := C.cells7 hV
  by_cases h10 : k = 10
  · have hk10 : (k == 10) = true := by simpa using h10
    rw [if_pos h10] at hout
    have HOUT := Lib.hid hout
    have HC := Lib.hid C
    have HV := Lib.hid hV
    have HSM := Lib.hid hsm
    have HR := Lib.hid (fun (y : Unit) => bd_region32 (w := w) (out := out) (X3 := X3) (g := groupV ks) (LL := l.length) rfl (C.known hV) C.hlc (by
        have := groupV_len ks
        rw [List.length_append, this]; omega) rfl (fun V2 h2 => HC.out.cells7 (HV.out.trans (h2.mono HV.out.size))) ((C.hk.below hV).mono hV.size) C.hkc (fun V2 A3 c3 h2 hi hc y0 y1 y4 y5 y6 y8 y9 y10 y11 y12 y13 y14 y15 y16 y17 y18 y19 y20 y21 y22 y23 y24 y25 y26 y27 y28 y29 y30 y31 y32 y33 y34 y35 y36 y37 y38 y39 y40 y41 y42 y43 y44 y45 y46 y47 y48 y49 y50 y51 y52 y53 y54 y55 y56 y57 y58 y59 y60 y61 y62 y63 y64 y65 y66 y67 y68 y69 y70 y71 y72 y73 y74 y75 y76 y77 y78 y79 y80 y81 y82 y83 y84 y85 y86 y87 y88 y89 y90 y91 y92 y93 y94 y95 y96 y97 y98 y99 y100 y101 y102 y103 y104 y105 y106 y107 y108 y109 y110 y111 y112 y113 y114 y115 y116 y117 y118 y119 y120 y121 y122 y123 y124 y125 y126 y127 y128 y129 y130 y131 y132 y133 y134 y135 y136 y137 y138 y139 y140 y141 y142 y143 y144 y145 y146 y147 y148 y149 y150 y151 y152 y153 y154 y155 y156 y157 y158 y159 y160 y161 y162 y163 y164 y165 y166 y167 y168 y169 y170 y171 y172 y173 y174 y175 y176 y177 y178 y179 y180 y181 y182 y183 y184 y185 y186 y187 y188 y189 y190 y191 y192 y193 y194 y195 y196 y197 y198 y199 y200 y201 y202 y203 y204 y205 y206 y207 y208 y209 y210 y211 y212 y213 y214 y215 y216 y217 y218 y219 y220 y221 y222 y223 y224 y225 y226 y227 y228 y229 y230 y231 y232 y233 y234 y235 y236 => bd_T33 HC.out (HV.out.trans (h2.mono HV.out.size)) hi hc HOUT.out _ _ _ _ _ _ _ _ _ _ _ _ _ _ _ _ _ _ _ _ _ _ _ _ _ _ _ _ _ _ _ _ _ _ _ _ _ _ _ _ _ _ _ _ _ _ _ _ _ _ _ _ _ _ _ _ _ _ _ _ _ _ _ _ _ _ _ _ _ _ _ _ _ _ _ _ _ _ _ _ _ _ _ _ _ _ _ _ _ _ _ _ _ _ _ _ _ _ _ _ _ _ _ _ _ _ _ _ _ _ _ _ _ _ _ _ _ _ _ _ _ _ _ _ _ _ _ _ _ _ _ _ _ _ _ _ _ _ _ _ _ _ _ _ _ _ _ _ _ _ _ _ _ _ _ _ _ _ _ _ _ _ _ _ _ _ _ _ _ _ _ _ _ _ _ _ _ _ _ _ _ _ _ _ _ _ _ _ _ _ _ _ _ _ _ _ _ _ _ _ _ _ _ _ _ _ _ _ _ _ _ _ _ _ _ _ _ _ _ _ _ _ _ _ _ _ _ _ _ _ _ _ _ _))
    clear C hV hsm hout h10
    obtain ⟨Q, hQ⟩ : ∃ Q, (bodyPost Try.prog Try.f39 (IntBelow out w)) = Q := ⟨_, rfl⟩
    have HQ := Lib.hid hQ
    rw [hQ]
    clear hQ
    unfold bdT31 Try.f39
    dsimp only
    go_wp2_with fail
    have hQ2 := HQ.out
    subst hQ2
    exact HR.out () _ _ _ _ _ _ _ _ _ _ _ _ _ _ _ _ _ _ _ _ _ _ _ _ _ _ _ _ _ _ _ _ _ _ _ _ _ _ _ _ _ _ _ _ _ _ _ _ _ _ _ _ _ _ _ _ _ _ _ _ _ _ _ _ _ _ _ _ _ _ _ _ _ _ _ _ _ _ _ _ _ _ _ _ _ _ _ _ _ _ _ _ _ _ _ _ _ _ _ _ _ _ _ _ _ _ _ _ _ _ _ _ _ _ _ _ _ _ _ _ _ _ _ _ _ _ _ _ _ _ _ _ _ _ _ _ _ _ _ _ _ _ _ _ _ _ _ _ _ _ _ _ _ _ _ _ _ _ _ _ _ _ _ _ _ _ _ _ _ _ _ _ _ _ _ _ _ _ _ _ _ _ _ _ _ _ _ _ _ _ _ _ _ _ _ _ _ _ _ _ _ _ _ _ _ _ _ _ _ _ _ _ _ _ _ _ _ _ _ _ _ _ _ _ _ _ _ _ _ _ _ _ _ _ _ ‹∀ (a : Act) (w : World), Code.wp Try.prog _ _ a w → _›
  · have hk10 : (k == 10) = false := by simpa using h10
    rw [if_neg h10] at hout
    have HR := Lib.hid (fun (y0 y1 y4 y5 y6 y8 y9 y10 y11 y12 y13 y14 y15 y16 y17 y18 y19 y20 y21 y22 y23 y24 y25 y26 y27 y28 y29 y30 y31 y32 y33 y34 y35 y36 y37 y38 y39 y40 y41 y42 y43 y44 y45 y46 y47 y48 y49 y50 y51 y52 y53 y54 y55 y56 y57 y58 y59 y60 y61 y62 y63 y64 y65 y66 y67 y68 y69 y70 y71 y72 y73 y74 y75 y76 y77 y78 y79 y80 y81 y82 y83 y84 y85 y86 y87 y88 y89 y90 y91 y92 y93 y94 y95 y96 y97 y98 y99 y100 y101 y102 y103 y104 y105 y106 y107 y108 y109 y110 y111 y112 y113 y114 y115 y116 y117 y118 y119 y120 y121 y122 y123 y124 y125 y126 y127 y128 y129 y130 y131 y132 y133 y134 y135 y136 y137 y138 y139 y140 y141 y142 y143 y144 y145 y146 y147 y148 y149 y150 y151 y152 y153 y154 y155 y156 y157 y158 y159 y160 y161 y162 y163 y164 y165 y166 y167 y168 y169 y170 y171 y172 y173 y174 y175 y176 y177 y178 y179 y180 y181 y182 y183 y184 y185 y186 y187 y188 y189 y190 y191 y192 y193 y194 y195 y196 y197 y198 y199 y200 y201 y202 y203 y204 y205 y206 y207 y208 y209 y210 y211 y212 y213 y214 y215 y216 y217 y218 y219 y220 y221 y222 y223 y224 y225 y226 y227 y228 y229 y230 y231 y232 y233 y234 y235 y236 : Value) => bd_T33 C hV (C.known hV) C.hlc hout y0 y1 y4 y5 y6 y8 y9 y10 y11 y12 y13 y14 y15 y16 y17 y18 y19 y20 y21 y22 y23 y24 y25 y26 y27 y28 y29 y30 y31 y32 y33 y34 y35 y36 y37 y38 y39 y40 y41 y42 y43 y44 y45 y46 y47 y48 y49 y50 y51 y52 y53 y54 y55 y56 y57 y58 y59 y60 y61 y62 y63 y64 y65 y66 y67 y68 y69 y70 y71 y72 y73 y74 y75 y76 y77 y78 y79 y80 y81 y82 y83 y84 y85 y86 y87 y88 y89 y90 y91 y92 y93 y94 y95 y96 y97 y98 y99 y100 y101 y102 y103 y104 y105 y106 y107 y108 y109 y110 y111 y112 y113 y114 y115 y116 y117 y118 y119 y120 y121 y122 y123 y124 y125 y126 y127 y128 y129 y130 y131 y132 y133 y134 y135 y136 y137 y138 y139 y140 y141 y142 y143 y144 y145 y146 y147 y148 y149 y150 y151 y152 y153 y154 y155 y156 y157 y158 y159 y160 y161 y162 y163 y164 y165 y166 y167 y168 y169 y170 y171 y172 y173 y174 y175 y176 y177 y178 y179 y180 y181 y182 y183 y184 y185 y186 y187 y188 y189 y190 y191 y192 y193 y194 y195 y196 y197 y198 y199 y200 y201 y202 y203 y204 y205 y206 y207 y208 y209 y210 y211 y212 y213 y214 y215 y216 y217 y218 y219 y220 y221 y222 y223 y224 y225 y226 y227 y228 y229 y230 y231 y232 y233 y234 y235 y236)
    clear C hV hsm hout h10
    suffices hs : ∀ K : Act → World → Prop, (∀ a w2, bdT33.wp Try.prog (bodyPost Try.prog Try.f39 (IntBelow out w)) a w2 → K a w2) → bdC31.wp Try.prog (Exit.then K (bodyPost Try.prog Try.f39 (IntBelow out w))) { tmps := #[u0, u1, .slice A2 l.length c2, .pointer (some ⟨X3, 0, none⟩), u4, u5, u6, .pointer (some ⟨X7, 0, none⟩), u8, u9, u10, u11, u12, u13, u14, u15, u16, u17, u18, u19, u20, u21, u22, u23, u24, u25, u26, u27, u28, u29, u30, u31, u32, u33, u34, u35, u36, u37, u38, u39, u40, u41, u42, u43, u44, u45, u46, u47, u48, u49, u50, u51, u52, u53, u54, u55, u56, u57, u58, u59, u60, u61, u62, u63, u64, u65, u66, u67, u68, u69, u70, u71, u72, u73, u74, u75, u76, u77, u78, u79, u80, u81, u82, u83, u84, u85, u86, u87, u88, u89, u90, u91, u92, u93, u94, u95, u96, u97, u98, u99, u100, u101, u102, u103, u104, u105, u106, u107, u108, u109, u110, u111, u112, u113, u114, u115, u116, u117, u118, u119, u120, u121, u122, u123, u124, u125, u126, u127, u128, u129, u130, u131, u132, u133, u134, u135, u136, u137, u138, u139, u140, u141, u142, u143, u144, u145, u146, u147, u148, u149, u150, u151, u152, u153, u154, u155, u156, u157, u158, u159, u160, u161, u162, u163, u164, u165, u166, u167, u168, u169, u170, u171, u172, u173, u174, u175, u176, u177, u178, u179, u180, u181, u182, u183, u184, u185, u186, u187, u188, u189, u190, u191, u192, u193, u194, u195, u196, u197, u198, u199, u200, u201, u202, u203, u204, u205, u206, u207, u208, u209, u210, u211, u212, u213, u214, u215, u216, u217, u218, u219, u220, u221, u222, u223, u224, u225, u226, u227, u228, u229, u230, u231, u232, u233, u234, u235, u236], defers := [] } V from wp_seq (hs _ (fun _ _ h => h))
    intro K hK
    have HK := Lib.hid (fun (y0 y1 y4 y5 y6 y8 y9 y10 y11 y12 y13 y14 y15 y16 y17 y18 y19 y20 y21 y22 y23 y24 y25 y26 y27 y28 y29 y30 y31 y32 y33 y34 y35 y36 y37 y38 y39 y40 y41 y42 y43 y44 y45 y46 y47 y48 y49 y50 y51 y52 y53 y54 y55 y56 y57 y58 y59 y60 y61 y62 y63 y64 y65 y66 y67 y68 y69 y70 y71 y72 y73 y74 y75 y76 y77 y78 y79 y80 y81 y82 y83 y84 y85 y86 y87 y88 y89 y90 y91 y92 y93 y94 y95 y96 y97 y98 y99 y100 y101 y102 y103 y104 y105 y106 y107 y108 y109 y110 y111 y112 y113 y114 y115 y116 y117 y118 y119 y120 y121 y122 y123 y124 y125 y126 y127 y128 y129 y130 y131 y132 y133 y134 y135 y136 y137 y138 y139 y140 y141 y142 y143 y144 y145 y146 y147 y148 y149 y150 y151 y152 y153 y154 y155 y156 y157 y158 y159 y160 y161 y162 y163 y164 y165 y166 y167 y168 y169 y170 y171 y172 y173 y174 y175 y176 y177 y178 y179 y180 y181 y182 y183 y184 y185 y186 y187 y188 y189 y190 y191 y192 y193 y194 y195 y196 y197 y198 y199 y200 y201 y202 y203 y204 y205 y206 y207 y208 y209 y210 y211 y212 y213 y214 y215 y216 y217 y218 y219 y220 y221 y222 y223 y224 y225 y226 y227 y228 y229 y230 y231 y232 y233 y234 y235 y236 : Value) => hK _ _ (HR.out y0 y1 y4 y5 y6 y8 y9 y10 y11 y12 y13 y14 y15 y16 y17 y18 y19 y20 y21 y22 y23 y24 y25 y26 y27 y28 y29 y30 y31 y32 y33 y34 y35 y36 y37 y38 y39 y40 y41 y42 y43 y44 y45 y46 y47 y48 y49 y50 y51 y52 y53 y54 y55 y56 y57 y58 y59 y60 y61 y62 y63 y64 y65 y66 y67 y68 y69 y70 y71 y72 y73 y74 y75 y76 y77 y78 y79 y80 y81 y82 y83 y84 y85 y86 y87 y88 y89 y90 y91 y92 y93 y94 y95 y96 y97 y98 y99 y100 y101 y102 y103 y104 y105 y106 y107 y108 y109 y110 y111 y112 y113 y114 y115 y116 y117 y118 y119 y120 y121 y122 y123 y124 y125 y126 y127 y128 y129 y130 y131 y132 y133 y134 y135 y136 y137 y138 y139 y140 y141 y142 y143 y144 y145 y146 y147 y148 y149 y150 y151 y152 y153 y154 y155 y156 y157 y158 y159 y160 y161 y162 y163 y164 y165 y166 y167 y168 y169 y170 y171 y172 y173 y174 y175 y176 y177 y178 y179 y180 y181 y182 y183 y184 y185 y186 y187 y188 y189 y190 y191 y192 y193 y194 y195 y196 y197 y198 y199 y200 y201 y202 y203 y204 y205 y206 y207 y208 y209 y210 y211 y212 y213 y214 y215 y216 y217 y218 y219 y220 y221 y222 y223 y224 y225 y226 y227 y228 y229 y230 y231 y232 y233 y234 y235 y236))
    clear HR hK
    obtain ⟨Q, hQ⟩ : ∃ Q, (bodyPost Try.prog Try.f39 (IntBelow out w)) = Q := ⟨_, rfl⟩
    rw [hQ]
    clear hQ
    unfold bdC31 Try.f39
    dsimp only
    go_wp2_with fail
    exact HK.out _ _ _ _ _ _ _ _ _ _ _ _ _ _ _ _ _ _ _ _ _ _ _ _ _ _ _ _ _ _ _ _ _ _ _ _ _ _ _ _ _ _ _ _ _ _ _ _ _ _ _ _ _ _ _ _ _ _ _ _ _ _ _ _ _ _ _ _ _ _ _ _ _ _ _ _ _ _ _ _ _ _ _ _ _ _ _ _ _ _ _ _ _ _ _ _ _ _ _ _ _ _ _ _ _ _ _ _ _ _ _ _ _ _ _ _ _ _ _ _ _ _ _ _ _ _ _ _ _ _ _ _ _ _ _ _ _ _ _ _ _ _ _ _ _ _ _ _ _ _ _ _ _ _ _ _ _ _ _ _ _ _ _ _ _ _ _ _ _ _ _ _ _ _ _ _ _ _ _ _ _ _ _ _ _ _ _ _ _ _ _ _ _ _ _ _ _ _ _ _ _ _ _ _ _ _ _ _ _ _ _ _ _ _ _ _ _ _ _ _ _ _ _ _ _ _ _ _ _ _ _ _ _ _
end
end Go.Proofs.Ytnobggabjpcbfaa
