/-
 2 texts of this seat in one: S1 S0.
-/
import Derived.Test.YtnobggabjpcbfaaGreatQI14
import Derived.Test.YtnobggabjpcbfaaGreatQI20
set_option maxRecDepth 100000
set_option maxHeartbeats 16000000
set_option linter.unusedVariables false
set_option linter.unusedSimpArgs false
namespace Go.Proofs.YtnobggabjpcbfaaGreat
open Go.RowKit Go.Maps
theorem rwrap_any (n : Int) (w : World) : Calls Tryz.prog 23 #[.int .i64 n] w fun e w' => e = .returned (.int .i64 (wrap31 n)) ∧ w = w' := by
 have h1 : Int.tmod n 2147483648 = if 0 ≤ n then n % 2147483648 else -((-n) % 2147483648) := by
  split
  · rename_i h; rw [Int.tmod_eq_emod_of_nonneg h]
  · rename_i h
    have := Int.neg_tmod (-n) 2147483648
    rw [Int.neg_neg] at this
    rw [this, Int.tmod_eq_emod_of_nonneg (by omega)]
 obtain ⟨m, hm⟩ : ∃ m, Int.tmod n 2147483648 = m := ⟨_, rfl⟩
 have hb : -2147483648 < m ∧ m < 2147483648 := by rw [← hm, h1]; split <;> omega
 have hw : wrap31 n = (if 0 ≤ m then (if 1073741824 ≤ m then m - 2147483648 else m) else (if 1073741824 ≤ m + 2147483648 then m + 2147483648 - 2147483648 else m + 2147483648)) := by
  rw [← hm, h1]; unfold wrap31
  split <;> split <;> split <;> omega
 have HW := Lib.hid hw
 clear hw h1
 have hw1 : IntKind.i64.wrap (m + 2147483648) = m + 2147483648 := by rw [IntKind.wrap_i64]; omega
 have hw2 : IntKind.i64.wrap (m - 2147483648) = m - 2147483648 := by rw [IntKind.wrap_i64]; omega
 have hw3 : IntKind.i64.wrap (m + 2147483648 - 2147483648) = m + 2147483648 - 2147483648 := by rw [IntKind.wrap_i64]; omega
 by_cases h0 : m < 0
 · by_cases h2 : 1073741824 ≤ m + 2147483648
   · have HF := Lib.hid (HW.out.trans (by rw [if_neg (by omega), if_pos h2]))
     go_enter Tryz.func23, Tryz.ntmps23
     go_wp2
     go_ret
     exact ⟨ret_int (by have := HF.out; omega), rfl⟩
   · have HF := Lib.hid (HW.out.trans (by rw [if_neg (by omega), if_neg h2]))
     go_enter Tryz.func23, Tryz.ntmps23
     go_wp2
     go_ret
     exact ⟨ret_int (by have := HF.out; omega), rfl⟩
 · by_cases h2 : 1073741824 ≤ m
   · have HF := Lib.hid (HW.out.trans (by rw [if_pos (by omega), if_pos h2]))
     go_enter Tryz.func23, Tryz.ntmps23
     go_wp2
     go_ret
     exact ⟨ret_int (by have := HF.out; omega), rfl⟩
   · have HF := Lib.hid (HW.out.trans (by rw [if_pos (by omega), if_neg h2]))
     go_enter Tryz.func23, Tryz.ntmps23
     go_wp2
     go_ret
     exact ⟨ret_int (by have := HF.out; omega), rfl⟩
theorem wrap31_in {n : Int} (h : inB n (-1073741824) 1073741823 = true) : wrap31 n = n := by
 have := inB_iff.1 h
 unfold wrap31; omega
theorem wrap31_out {n : Int} (h : inB n (-1073741824) 1073741823 = false) : wrap31 n ≠ n := by
 have : ¬ (-1073741824 ≤ n ∧ n ≤ 1073741823) := fun hh => by rw [inB_iff.2 hh] at h; cases h
 unfold wrap31; omega
theorem is_any (n a b : Int) (w : World) : Calls Tryz.prog 43 #[.int .i64 n, .int .i64 a, .int .i64 b] w fun e w' => e = .returned (.bool (inB n a b)) ∧ w = w' := by
 by_cases h : a ≤ n
 all_goals
  go_enter Tryz.func43, Tryz.ntmps43
  go_wp2
  go_ret
  exact ⟨ret_bool (by simp [inB]; omega), rfl⟩
theorem isVar_any (n : Int) (w : World) : Calls Tryz.prog 26 #[.int .i64 n] w fun e w' => e = .returned (.bool (varB n)) ∧ w = w' := by
 go_enter Tryz.func26, Tryz.ntmps26
 go_wp2_with (go_at_call 43; refine (is_any _ _ _ _).mono ?_; rintro e w' ⟨rfl, rfl⟩)
 go_ret
 exact ⟨rfl, rfl⟩
theorem rargs_any (p : Int) (w : World) : Calls Tryz.prog 86 #[.int .i64 p] w fun e w' => e = .returned (.int .i64 (if twoF p then 2 else 1)) ∧ w = w' := by
 obtain ⟨out, hout⟩ : ∃ o : Int, (if twoF p then (2 : Int) else 1) = o := ⟨_, rfl⟩
 rw [hout]
 have HO := Lib.hid hout
 clear hout
 by_cases h9 : p ≤ 9
 · have HF := Lib.hid (show out = 2 from HO.out.symm.trans (by simp [twoF, h9]))
   go_enter Tryz.func86, Tryz.ntmps86
   go_wp2
   go_ret
   exact ⟨ret_int HF.out.symm, rfl⟩
 · by_cases h12 : p = 12
   · have HF := Lib.hid (show out = 2 from HO.out.symm.trans (by simp [twoF, h12]))
     subst h12
     go_enter Tryz.func86, Tryz.ntmps86
     go_wp2
     go_ret
     exact ⟨ret_int HF.out.symm, rfl⟩
   · by_cases h16 : p = 16
     · have HF := Lib.hid (show out = 2 from HO.out.symm.trans (by simp [twoF, h16]))
       subst h16
       go_enter Tryz.func86, Tryz.ntmps86
       go_wp2
       go_ret
       exact ⟨ret_int HF.out.symm, rfl⟩
     · have HF := Lib.hid (show out = 1 from HO.out.symm.trans (by simp [twoF, h9, h12, h16]))
       have e1 : (p == 12) = false := by simpa using h12
       have e2 : (p == 16) = false := by simpa using h16
       clear h12 h16
       go_enter Tryz.func86, Tryz.ntmps86
       go_wp2
       go_ret
       exact ⟨ret_int HF.out.symm, rfl⟩
theorem rfields_any (k : Int) (w : World) :
 Calls Tryz.prog 65 #[.int .i64 k] w fun e w' => e = .returned (.tuple #[.bool (hasN k), .bool (hasA k), .bool (hasK k), .bool (hasB k), .bool (hasA k)]) ∧ w = w' := by
 by_cases h : k = 1 ∨ k = 6 ∨ k = 2 ∨ k = 3 ∨ k = 4 ∨ k = 9 ∨ k = 8 ∨ k = 10
 · rcases h with rfl | rfl | rfl | rfl | rfl | rfl | rfl | rfl
   all_goals
    go_enter Tryz.func65, Tryz.ntmps65
    go_wp2
    refine bodyPost_ret (v := .tuple #[.bool _, .bool _, .bool _, .bool _, .bool _]) (by simp [results, Tryz.results65, go_sem]; decide) rfl ⟨rfl, rfl⟩
 · have e1 : (k == 1) = false := by simp; omega
   have e2 : (k == 2) = false := by simp; omega
   have e3 : (k == 3) = false := by simp; omega
   have e4 : (k == 4) = false := by simp; omega
   have e6 : (k == 6) = false := by simp; omega
   have e8 : (k == 8) = false := by simp; omega
   have e9 : (k == 9) = false := by simp; omega
   have e10 : (k == 10) = false := by simp; omega
   go_enter Tryz.func65, Tryz.ntmps65
   go_wp2
   refine bodyPost_ret (v := .tuple #[.bool false, .bool false, .bool false, .bool false, .bool false]) (by simp [results, Tryz.results65, go_sem]) rfl ⟨?_, rfl⟩
   simp [hasN, hasA, hasK, hasB, e1, e2, e3, e4, e6, e8, e9, e10]
def nB (nf : Nat) (k n : Int) : Bool := if k = 3 then inB n 0 1023 else if k = 4 then inB n 0 255 else if k = 9 then inB n 0 ((nf : Int) - 1) else true
theorem rnumber_any {nf : Nat} (hnf : nf ≤ 1000000) (k n : Int) (Aa Ak Al : Option Addr) (na ca nk ck nb cb : Nat) (w : World) :
 Calls Tryz.prog 66 #[.agg #[.int .i64 k, .int .i64 n, .slice Aa na ca, .slice Ak nk ck, .slice Al nb cb], .int .i64 (nf : Int)] w fun e w' => e = .returned (.bool (nB nf k n)) ∧ Below w.heap.size w w' := by
 obtain ⟨W0, hW0⟩ : ∃ W0, w.alloc (.cells #[.int .i64 k, .int .i64 n, .slice Aa na ca, .slice Ak nk ck, .slice Al nb cb] 60) = W0 := ⟨_, rfl⟩
 have hb0 : Below w.heap.size w W0 := by rw [← hW0]; exact (Below.refl _ _).alloc (Nat.le_refl _) _
 have c0 : W0.cell? ⟨w.heap.size, 0, none⟩ = some (.int .i64 k) := by rw [← hW0, World.cell?_alloc_at _ _ _ _ rfl]; rfl
 have c1 : W0.cell? ⟨w.heap.size, 1, none⟩ = some (.int .i64 n) := by rw [← hW0, World.cell?_alloc_at _ _ _ _ rfl]; rfl
 have HB := Lib.hid hb0
 clear hb0
 have hw1 : IntKind.i64.wrap ((nf : Int) - 1) = (nf : Int) - 1 := by rw [IntKind.wrap_i64]; omega
 by_cases h3 : k = 3
 · subst h3
   go_enter Tryz.func66, Tryz.ntmps66
   go_wp2_with (go_at_call 43; refine (is_any _ _ _ _).mono ?_; rintro e w' ⟨rfl, rfl⟩)
   go_ret
   exact ⟨ret_bool (by simp [nB]), HB.out⟩
 by_cases h4 : k = 4
 · subst h4
   go_enter Tryz.func66, Tryz.ntmps66
   go_wp2_with (go_at_call 43; refine (is_any _ _ _ _).mono ?_; rintro e w' ⟨rfl, rfl⟩)
   go_ret
   exact ⟨ret_bool (by simp [nB]), HB.out⟩
 by_cases h9 : k = 9
 · subst h9
   go_enter Tryz.func66, Tryz.ntmps66
   go_wp2_with (go_at_call 43; refine (is_any _ _ _ _).mono ?_; rintro e w' ⟨rfl, rfl⟩)
   go_ret
   exact ⟨ret_bool (by simp [nB]), HB.out⟩
 have e3 : (k == 3) = false := by simpa using h3
 have e4 : (k == 4) = false := by simpa using h4
 have e9 : (k == 9) = false := by simpa using h9
 have HN := Lib.hid (show nB nf k n = true from by simp [nB, h3, h4, h9])
 clear h3 h4 h9
 go_enter Tryz.func66, Tryz.ntmps66
 go_wp2_with fail
 go_ret
 exact ⟨ret_bool HN.out.symm, HB.out⟩
theorem contains_false {l : List Int} {n : Int} (h : ∀ i, i < l.length → nth l i ≠ n) : l.contains n = false := by
 rw [List.contains_eq_mem]
 simp only [decide_eq_false_iff_not]
 intro hm
 obtain ⟨i, hi, he⟩ := List.mem_iff_getElem.1 hm
 exact h i hi (by rw [nth_eq _ hi]; exact he)
theorem contains_true {l : List Int} {n : Int} {i : Nat} (hi : i < l.length) (h : nth l i = n) : l.contains n = true := by
 rw [List.contains_eq_mem]
 simp only [decide_eq_true_eq]
 rw [← h, nth_eq _ hi]
 exact List.getElem_mem hi
theorem rhas_any (A : Option Addr) (c : Nat) (l : List Int) (n : Int) (w : World) (hk : IntsIn w.heap.size w A l) (hkc : l.length ≤ c) :
 Calls Tryz.prog 46 #[.slice A l.length c, .int .i64 n] w fun e w' => e = .returned (.bool (l.contains n)) ∧ w = w' := by
 have HK := Lib.hid (fun (j : Nat) (hj : j < l.length) => (show ∃ b o, A = some ⟨b, o, none⟩ ∧ w.cell? ⟨b, o + j, none⟩ = some (.int .i64 (nth l j)) from by
  obtain ⟨b, o, h1, h2, h3⟩ := hk.at_ (by omega)
  exact ⟨b, o, h1, h3 j hj⟩))
 have h64 := hk.1
 clear hk
 obtain ⟨out, hout⟩ : ∃ o, l.contains n = o := ⟨_, rfl⟩
 rw [hout]
 have HO := Lib.hid hout
 clear hout
 obtain ⟨L, hL⟩ : ∃ L, l.length = L := ⟨_, rfl⟩
 have HL := Lib.hid hL
 rw [hL] at hkc HK h64 ⊢
 clear hL
 go_enter Tryz.func46, Tryz.ntmps46
 go_wp2_with fail
 go_loopw [5] (fun iv wr => ∃ j : Nat, j ≤ L ∧ iv = .int .i64 (j : Int) ∧ w = wr ∧ Hid (∀ i, i < j → nth l i ≠ n)) (fun iv _ => L + 1 - (intOf iv).toNat)
 case atStart => exact ⟨0, by omega, rfl, rfl, Lib.hid (fun i hi => by omega)⟩
 case round =>
  obtain ⟨j, hj, rfl, rfl, HA⟩ := hrel
  by_cases hlt : j < L
  · obtain ⟨b, o, rfl, qk⟩ := HK.out j hlt
    have e1 : (0 : Int) ≤ (j : Int) := by omega
    have e2 : (j : Int) < (L : Int) := by omega
    have e4 : IntKind.i64.wrap ((j : Int) + 1) = (j : Int) + 1 := by rw [IntKind.wrap_i64]; omega
    have e5 : (L : Int) ≤ (c : Int) := by omega
    by_cases hx : nth l j = n
    · have HT := Lib.hid (show out = true from HO.out.symm.trans (contains_true (by rw [HL.out]; exact hlt) hx))
      have hx' : (nth l j == n) = true := by simpa using hx
      clear hx
      generalize nth l j = x at *
      go_wp2_with fail
      go_ret
      exact ⟨ret_bool HT.out.symm, rfl⟩
    · have HA2 := Lib.hid (show ∀ i, i < j + 1 → nth l i ≠ n from fun i hi => by
       by_cases he : i = j
       · rw [he]; exact hx
       · exact HA.out i (by omega))
      have hx' : (nth l j == n) = false := by simpa using hx
      clear hx
      generalize nth l j = x at *
      go_wp2_with fail
      go_roundw
      case rel => exact ⟨j + 1, by omega, by go_num, (by first | rfl | trivial), HA2⟩
      case measure => simp [intOf]; omega
  · have e2 : ¬ (j : Int) < (L : Int) := by omega
    have HE := Lib.hid (show out = false from HO.out.symm.trans (contains_false (fun i hi => HA.out i (by rw [HL.out] at hi; omega))))
    go_wp2_with fail
    go_ret
    exact ⟨ret_bool HE.out.symm, rfl⟩
theorem own_intsS {w : World} {base n : Nat} {e : TypeId} {v : Value} {xs : List Int} (h : w.ownsRow base e 1 v n (xs.map (Value.int .i64))) (hb : xs.length * 8 ≤ 140737488351232) :
 ∃ A c, v = .slice A xs.length c ∧ IntsIn w.heap.size w A xs ∧ xs.length ≤ c ∧ ∀ a, A = some a → base ≤ a.block := by
 obtain ⟨A, c, rfl, h1, h2⟩ := own_intsD h hb
 refine ⟨A, c, rfl, h1, h2, fun a ha => ?_⟩
 rcases h.2 with ⟨h0, _⟩ | ⟨g, cap, cur, h0, h3, _⟩
 · simp only [Value.slice.injEq] at h0
   rw [h0.1] at ha; cases ha
 · simp only [Value.slice.injEq] at h0
   rw [h0.1] at ha
   cases ha
   exact h3
theorem rvars_any (k n : Int) (Aa Ak Al : Option Addr) (na ca ck nb cb : Nat) (ks : List Int) (w : World) (hk : IntsIn w.heap.size w Ak ks) (hkc : ks.length ≤ ck) :
 Calls Tryz.prog 45 #[.agg #[.int .i64 k, .int .i64 n, .slice Aa na ca, .slice Ak ks.length ck, .slice Al nb cb]] w fun e w' => ∃ A c, e = .returned (.slice A (groupV ks).length c) ∧ IntsIn w'.heap.size w' A (groupV ks) ∧ (groupV ks).length ≤ c ∧ (∀ a, A = some a → w.heap.size ≤ a.block) ∧ Below w.heap.size w w' := by
 obtain ⟨W0, hW0⟩ : ∃ W0, w.alloc (.cells #[.int .i64 k, .int .i64 n, .slice Aa na ca, .slice Ak ks.length ck, .slice Al nb cb] 60) = W0 := ⟨_, rfl⟩
 have hb0 : Below w.heap.size w W0 := by rw [← hW0]; exact (Below.refl _ _).alloc (Nat.le_refl _) _
 have hR : RhsAt w W0 w.heap.size k n Aa Ak Al na ca ks.length ck nb cb := by rw [← hW0]; exact RhsAt.new _ _ _ _ _ _ _ _ _ _ _ _
 have HR := Lib.hid (fun (V : World) (hV : Below W0.heap.size W0 V) => (hR.behind hV).c3)
 have HK := Lib.hid (fun (V : World) (hV : Below W0.heap.size W0 V) (j : Nat) (hj : j < ks.length) => (show ∃ b o, Ak = some ⟨b, o, none⟩ ∧ V.cell? ⟨b, o + j, none⟩ = some (.int .i64 (nth ks j)) from by
  obtain ⟨b, o, h1, h2, h3⟩ := hk.at_ (by omega)
  exact ⟨b, o, h1, ((hb0.trans (hV.mono hb0.size)).cell (p := ⟨_, _, none⟩) h2).trans (h3 j hj)⟩))
 obtain ⟨i0, hinf, hz0, hz1, hz2⟩ := info_parts infoI
 have hl := groupV_len ks
 have HG := Lib.hid (groupV_get ks)
 have h64 := hk.1
 have HB := Lib.hid hb0
 clear hk hR hb0
 obtain ⟨L, hL⟩ : ∃ L, ks.length = L := ⟨_, rfl⟩
 rw [hL] at hW0 hkc HR HK hl HG h64 ⊢
 clear hL
 have hG8 : (groupV ks).length * 8 ≤ 140737488351232 := by omega
 have HG8 := Lib.hid hG8
 obtain ⟨G, hG⟩ : ∃ G, groupV ks = G := ⟨_, rfl⟩
 rw [hG] at hl HG HG8 ⊢
 have HL := Lib.hid hl
 clear hG hG8
 obtain ⟨M, hM⟩ : ∃ M, G.length = M := ⟨_, rfl⟩
 have HM := Lib.hid hM
 rw [hM] at hl
 clear hM
 go_enter Tryz.func45, Tryz.ntmps45
 go_wp2_with fail
 go_loopw [3, 4] (fun rv iv wr => ∃ j : Nat, j ≤ M ∧ iv = .int .i64 (3 * (j : Int)) ∧ Hid (wr.ownsRow W0.heap.size 3 1 rv j ((G.take j).map (Value.int .i64))) ∧ Hid (Below W0.heap.size W0 wr)) (fun _ iv _ => 3 * M + 3 - (intOf iv).toNat)
 case atStart => exact ⟨0, by omega, rfl, Lib.hid ⟨by simp, .inl ⟨rfl, rfl⟩⟩, Lib.hid (Below.refl _ _)⟩
 case round =>
  obtain ⟨j, hj, rfl, HO, HW⟩ := hrel
  have q3 := HR.out wr HW.out
  by_cases hlt : j < M
  · have hj1 : 3 * j < L := by omega
    obtain ⟨b, o, rfl, qk⟩ := HK.out wr HW.out (3 * j) hj1
    have e1 : (0 : Int) ≤ 3 * (j : Int) := by omega
    have e2 : 3 * (j : Int) < (L : Int) := by omega
    have e3 : (3 * (j : Int)).toNat = 3 * j := by omega
    have e4 : IntKind.i64.wrap (3 * (j : Int) + 3) = 3 * (j : Int) + 3 := by rw [IntKind.wrap_i64]; omega
    have e5 : (L : Int) ≤ (ck : Int) := by omega
    have hml : j + 1 ≤ maxLen := by unfold maxLen; omega
    have HGJ := Lib.hid (HG.out j hj1)
    have hrow := Lib.hid (show (wr.alloc (.cells #[.int .i64 (nth ks (3 * j))] 3)).ownsRow W0.heap.size 3 1 u3 j ((G.take j).map (Value.int .i64)) from HO.out.alloc _)
    have hws := HW.out.size
    go_wp2_with (at_builtin; refine wpList_append_own_at _ rfl _ _ 30 rfl W0.heap.size 3 i0 (.int .i64 0) 1 8 undI hinf hz0 hz1 hz2 rfl (by decide) _ _ _ rfl hrow.out ⟨wr.heap.size, 0, none⟩ 1 1 [.int .i64 (nth ks (3 * j))] rfl rfl (cell_one_new _ _ _) (by simp [Value.oneCell']) hml (by omega) (by rw [World.size_alloc]; omega) ?_; intro v' w1 hown' hgrow _ hat)
    have hgrow' := hgrow
    change World.grownBy _ w1 u3.ownBlock at hgrow'
    have hb1 : Below W0.heap.size W0 (wr.alloc (.cells #[.int .i64 (nth ks (3 * j))] 3)) := HW.out.alloc hws _
    have HW2 := Lib.hid (hb1.grown hgrow' hb1.size (fun q hq => (HO.out.lt q hq).1))
    have HO2 := Lib.hid (show w1.ownsRow W0.heap.size 3 1 v' (j + 1) ((G.take (j + 1)).map (Value.int .i64)) from by
     have he : G.take (j + 1) = G.take j ++ [nth ks (3 * j)] := by rw [List.take_add_one, HGJ.out]; rfl
     rw [he, List.map_append]
     exact hown')
    clear hgrow hgrow' hat hown' hb1
    go_roundw
    case rel => exact ⟨j + 1, by omega, by go_num, HO2, HW2⟩
    case measure => simp [intOf]; omega
  · have hjM : j = M := by omega
    have e2 : ¬ 3 * (j : Int) < (L : Int) := by omega
    have ho := HO.out
    rw [List.take_of_length_le (by rw [HM.out]; omega)] at ho
    obtain ⟨A, c, rfl, h1, h2, h3⟩ := own_intsS ho HG8.out
    have HE := Lib.hid (show ∃ A' c', Ending.returned (.slice A G.length c) = .returned (.slice A' G.length c') ∧ IntsIn wr.heap.size wr A' G ∧ G.length ≤ c' ∧ (∀ a, A' = some a → w.heap.size ≤ a.block) ∧ Below w.heap.size w wr from ⟨A, c, rfl, h1, h2, fun a ha => Nat.le_trans HB.out.size (h3 a ha), HB.out.trans (HW.out.mono HB.out.size)⟩)
    clear ho h1 h2 h3
    go_wp2_with fail
    go_ret
    exact HE.out
end Go.Proofs.YtnobggabjpcbfaaGreat
namespace Go.Proofs.YtnobggabjpcbfaaGreat
open Go.RowKit
theorem add_plain (b o j : Nat) : (⟨b, o, none⟩ : Addr).add j = ⟨b, o + j, none⟩ := by cases j <;> simp [Addr.add]
def RowI (w : World) (A : Option Addr) (news : List Value) : Prop := (A = none ∧ news = []) ∨ ∃ ad : Addr, A = some ad ∧ ∀ j u, news[j]? = some u → w.cell? (ad.add j) = some u
theorem RowI.below {w w' : World} {A : Option Addr} {news : List Value} (h : RowI w A news) (hb : Below w.heap.size w w') : RowI w' A news := by
 rcases h with h | ⟨ad, hA, hc⟩
 · exact .inl h
 · exact .inr ⟨ad, hA, fun j u hj => (hb.cell (p := ad.add j) (World.block_lt_of_cell? _ _ (hc j u hj))).trans (hc j u hj)⟩
theorem grown_below {w w1 w2 : World} {row : Option Nat} (h : Below w.heap.size w w1) (hg : w1.grownBy w2 row) (hr : ∀ b, row = some b → w.heap.size ≤ b) : Below w.heap.size w w2 :=
 ⟨hg.os.trans h.os, hg.tape.trans h.tape, hg.output.trans h.output, Nat.le_trans h.size hg.size, fun i hi => (hg.block i (Nat.lt_of_lt_of_le hi h.size) (fun e => by have := hr i e.symm; omega)).trans (h.block i hi)⟩
theorem own_ge {w : World} {base : Nat} {e : TypeId} {size : Nat} {v : Value} {n : Nat} {xs : List Value} (h : w.ownsRow base e size v n xs) : ∀ b, v.ownBlock = some b → base ≤ b := by
 intro b hb
 rcases h.2 with ⟨rfl, _⟩ | ⟨g, cap, cur, rfl, hg, _⟩
 · simp [Value.ownBlock] at hb
 · simp [Value.ownBlock] at hb; omega
section
variable {P : Program} (w : World)
theorem run_append_none_any (base : Nat) (t ty e : TypeId) (i : TypeInfo) (size : Nat) (ht : P.underlying t = some (.slice e)) (hi : P.info? e = some i)
 (v : Value) (n c : Nat) (xs : List Value) (hown : w.ownsRow base e size v n xs) :
 (Builtin.append_ #[t, t] ty #[v, .slice none 0 c]).run P w = .ok v w := by
 rcases hown.2 with ⟨rfl, rfl⟩ | ⟨g, cap, cur, rfl, _, _, hnc, _⟩
 · simp [Builtin.append_, run_underlying ht, sizeOf, typeInfo, hi, Builtin.lenOf, Builtin.firstCells]
 · simp [Builtin.append_, run_underlying ht, sizeOf, typeInfo, hi, Builtin.lenOf, Builtin.firstCells, hnc, storeCells]
theorem wp_append_row {o : Oper} {a : Act} {K : Act → World → Prop} {Q : Exit → Act → World → Prop} (s x : Operand) (t : TypeId)
 (ho : o.op = .call { callee := .builtin .append, args := #[s, x], argTypes := #[t, t] })
 (base : Nat) (e : TypeId) (i : TypeInfo) (z : Value) (size bytes : Nat) (ht : P.underlying t = some (.slice e)) (hi : P.info? e = some i) (hz : i.zero = some z)
 (hsize : i.size = size) (hby : i.bytes = bytes) (hzs : z.cells.size = size) (hsz : 0 < size)
 (v : Value) (n : Nat) (xs : List Value) (hs : a.eval s = v) (hown : w.ownsRow base e size v n xs)
 (A : Option Addr) (m c : Nat) (news : List Value) (hx : a.eval x = .slice A m c) (hl : news.length = m * size) (hnews : RowI w A news) (h1 : ∀ u ∈ news, u.oneCell' = true)
 (h63 : n + m ≤ maxLen) (hbytes : (n + m) * bytes ≤ 140737488355328) (hbase : base ≤ w.heap.size)
 (h : ∀ v' w', w'.ownsRow base e size v' (n + m) (xs ++ news) → w.grownBy w' v.ownBlock → (v'.ownBlock = v.ownBlock ∨ v'.ownBlock = some w.heap.size) → K (a.put o.dst v') w') : o.wp P a w K Q := by
 rcases hnews with ⟨rfl, rfl⟩ | ⟨ad, rfl, hc⟩
 · have hm : m = 0 := by
    simp only [List.length_nil] at hl
    rcases Nat.mul_eq_zero.1 hl.symm with h0 | h0
    · exact h0
    · omega
   subst hm
   have hr := run_append_none_any (P := P) w base t o.type e i size ht hi v n c xs hown
   unfold Oper.wp execOp
   simp only [ho, resolve, invoke, builtin, Sem.run_bind, Sem.run_pure, Result.andThen_ok, List.map_toArray, List.map_cons, List.map_nil, hs, hx, hr]
   exact h v w (by simpa using hown) ⟨rfl, rfl, rfl, Nat.le_refl _, fun k _ _ => rfl⟩ (.inl rfl)
 · exact wp_append_at w s x t ho base e i z size bytes ht hi hz hsize hby hzs hsz v n xs hs hown ad m c news hx hl hc h1 h63 hbytes hbase h
theorem wpList_append_row {ops : Array Oper} {rest : List Oper} {o : Oper} {a : Act} {Q : Exit → Act → World → Prop} (hgd : o.guard = none) (s x : Operand) (t : TypeId)
 (ho : o.op = .call { callee := .builtin .append, args := #[s, x], argTypes := #[t, t] })
 (base : Nat) (e : TypeId) (i : TypeInfo) (z : Value) (size bytes : Nat) (ht : P.underlying t = some (.slice e)) (hi : P.info? e = some i) (hz : i.zero = some z)
 (hsize : i.size = size) (hby : i.bytes = bytes) (hzs : z.cells.size = size) (hsz : 0 < size)
 (v : Value) (n : Nat) (xs : List Value) (hs : a.eval s = v) (hown : w.ownsRow base e size v n xs)
 (A : Option Addr) (m c : Nat) (news : List Value) (hx : a.eval x = .slice A m c) (hl : news.length = m * size) (hnews : RowI w A news) (h1 : ∀ u ∈ news, u.oneCell' = true)
 (h63 : n + m ≤ maxLen) (hbytes : (n + m) * bytes ≤ 140737488355328) (hbase : base ≤ w.heap.size)
 (h : ∀ v' w', w'.ownsRow base e size v' (n + m) (xs ++ news) → w.grownBy w' v.ownBlock → (v'.ownBlock = v.ownBlock ∨ v'.ownBlock = some w.heap.size) → wpList P ops Q rest (a.put o.dst v') w') : wpList P ops Q (o :: rest) a w :=
 wpList_plain hgd fun K hK => wp_append_row w s x t ho base e i z size bytes ht hi hz hsize hby hzs hsz v n xs hs hown A m c news hx hl hnews h1 h63 hbytes hbase (fun v' w' h1 h2 h3 => hK _ _ (h v' w' h1 h2 h3))
end
theorem own_empty (w : World) {base : Nat} (h : base ≤ w.heap.size) (e : TypeId) (size : Nat) : (w.alloc (.cells #[] e)).ownsRow base e size (.slice (some ⟨w.heap.size, 0, none⟩) 0 0) 0 [] := World.ownsRow_lit w #[] 0 h (by simp [maxLen]) (by simp)
theorem own_size {w : World} {base : Nat} {e : TypeId} {size n m : Nat} {v : Value} {xs : List Value} (hn : m = n) (h : w.ownsRow base e size v n ([] ++ xs)) : w.ownsRow base e size v m xs := by subst hn; simpa using h
theorem own_lt_ {base : Nat} {e : TypeId} {size m : Nat} {v : Value} {xs : List Value} {w : World} (h : w.ownsRow base e size v m xs) : ∀ b, v.ownBlock = some b → b < w.heap.size := by
 intro b hb
 rcases h.2 with ⟨rfl, _⟩ | ⟨g, cap, cur, rfl, hg, hc, _⟩
 · simp [Value.ownBlock] at hb
 · simp [Value.ownBlock] at hb
   subst hb
   exact (Array.getElem?_eq_some_iff.1 hc).1
abbrev iv (ks : List Int) : List Value := ks.map (fun n => Value.int .i64 n)
theorem iv_at (ks : List Int) (j : Nat) (u : Value) : (iv ks)[j]? = some u → j < ks.length ∧ u = .int .i64 (nth ks j) := by
 intro h
 rw [List.getElem?_map] at h
 cases hj : ks[j]? with
 | none => rw [hj] at h; cases h
 | some x =>
  rw [hj] at h
  have hlt := (List.getElem?_eq_some_iff.1 hj).1
  refine ⟨hlt, ?_⟩
  simp only [Option.map_some, Option.some.injEq] at h
  rw [← h]
  unfold nth
  rw [hj]; rfl
theorem iv_one (ks : List Int) : ∀ u ∈ iv ks, u.oneCell' = true := by
 intro u hu
 obtain ⟨x, -, rfl⟩ := List.mem_map.1 hu
 rfl
theorem ints_row {B : Nat} {w : World} {A : Option Addr} {ks : List Int} (h : IntsIn B w A ks) : RowI w A (iv ks) := by
 rcases h.2 with rfl | ⟨b, o, rfl, hb, hc⟩
 · rcases A with _ | ad
   · exact .inl ⟨rfl, rfl⟩
   · exact .inr ⟨_, rfl, by simp [iv]⟩
 · refine .inr ⟨_, rfl, fun j u hj => ?_⟩
   obtain ⟨h1, rfl⟩ := iv_at ks j u hj
   rw [add_plain]
   exact hc j h1
end Go.Proofs.YtnobggabjpcbfaaGreat
