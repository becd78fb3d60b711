/-
  5 texts of this seat in one: D9 D10 D11 D12 D13.
-/
import Derived.Test.YtnobggabjpcbfaaQM4
import Derived.Test.YtnobggabjpcbfaaQM2
import Derived.WalkMore
import Derived.Test.YtnobggabjpcbfaaQM3
/-
  clos: know, forget, what is asked in a body.
-/
set_option linter.unusedVariables false
set_option linter.unusedSimpArgs false
namespace Go.Proofs.Ytnobggabjpcbfaa
open Go.RowKit Go.Maps

section
variable {cb_ mb nf n : Nat} {kn : List Int} {W V : World}
theorem isKey_int (v : Int) : WideAt.IsKeyLit (.int .i64 v) := by
  simp [WideAt.IsKeyLit]
theorem lit_inj {a b : Int} (h : (DataW.lit (.int .i64 a) : DataW Unit) = .lit (.int .i64 b)) : a = b := by
  injection h with h
  injection h
theorem count_cons_ (v x : Int) (l : List Int) : (x :: l).count v = l.count v + (if x = v then 1 else 0) := by
  rw [List.count_cons]
  by_cases h : x = v <;> simp [h]
set_option maxRecDepth 100000 in
set_option maxHeartbeats 2000000 in
theorem know_any (h : KnownIn cb_ mb nf n kn W) {A : Option Addr} {c : Nat} {l : List Int} (hl : IntsIn W.heap.size W A l) (hlc : l.length ≤ c) (h64 : ∀ x ∈ l, In64 x) (hn : n + l.length ≤ 1000000000000) (hkn : kn.length + l.length ≤ 1000000000000) (hA : ∀ a, A = some a → a.block ≠ mb) :
    Calls Try.prog 31 #[.pointer (some ⟨cb_, 0, none⟩), .slice A l.length c] W fun e w' => e = .returned (.tuple #[]) ∧ KnownIn cb_ mb nf (n + l.length) (l ++ kn) w' ∧ Turned mb W w' := by
  have HL := Lib.hid (fun (j : Nat) (hj : j < l.length) (V : World) (hV : Turned mb W V) => (show ∃ b o, A = some ⟨b, o, none⟩ ∧ V.cell? ⟨b, o + j, none⟩ = some (.int .i64 (nth l j)) from by
    obtain ⟨b, o, h1, h2, h3⟩ := hl.at_ (by omega)
    exact ⟨b, o, h1, hV.cell (hA _ h1) (h3 j hj)⟩))
  have H64 := Lib.hid h64
  have hl8 := hl.1
  have hst : KnownIn cb_ mb nf (n + 0) ((l.take 0).reverse ++ kn) W := h
  have HST := Lib.hid hst
  clear hl h64 h hA hst
  obtain ⟨M, hM⟩ : ∃ M, l.length = M := ⟨_, rfl⟩
  have HM := Lib.hid hM
  rw [hM] at hlc hn hkn HL hl8 ⊢
  clear hM
  go_enter Try.func31, Try.ntmps31
  go_wp2_with fail
  go_loopw [8] (fun iv wr => ∃ j : Nat, j ≤ M ∧ iv = .int .i64 (j : Int) ∧ Hid (KnownIn cb_ mb nf (n + j) ((l.take j).reverse ++ kn) wr) ∧ Hid (Turned mb W wr)) (fun iv _ => M + 1 - (intOf iv).toNat)
  case atStart => exact ⟨0, by omega, rfl, HST, Lib.hid (Turned.refl _ _)⟩
  case round =>
    obtain ⟨j, hj, rfl, HK, HT⟩ := hrel
    by_cases hlt : j < M
    · obtain ⟨b, o, rfl, qk⟩ := HL.out j hlt wr HT.out
      have e1 : (0 : Int) ≤ (j : Int) := by omega
      have e2 : (j : Int) < (M : Int) := by omega
      have e4 : IntKind.i64.wrap ((j : Int) + 1) = (j : Int) + 1 := by rw [IntKind.wrap_i64]; omega
      have e5 : (M : Int) ≤ (c : Int) := by omega
      have q1 : wr.cell? ⟨cb_, 1, none⟩ = some (.map (some mb)) := by simp [World.cell?, HK.out.chk]
      obtain ⟨D, hD, hat⟩ := HK.out.map
      have hx : In64 (nth l j) := H64.out _ (nth_mem l (by rw [HM.out]; exact hlt))
      have hcl : (((l.take j).reverse ++ kn).count (nth l j) : Int) ≤ 1000000000000 := by
        have h1 := List.count_le_length (a := nth l j) (l := (l.take j).reverse ++ kn)
        have h2 : ((l.take j).reverse ++ kn).length ≤ M + kn.length := by simp; omega
        omega
      have hcl0 : (0 : Int) ≤ (((l.take j).reverse ++ kn).count (nth l j) : Int) := by omega
      have hkey := keyOf_int_mk (P := Try.prog) undInt hx
      have HAT := Lib.hid hat
      have HX := Lib.hid hx
      have HSTEP := Lib.hid (show (l.take (j + 1)).reverse ++ kn = nth l j :: ((l.take j).reverse ++ kn) from by rw [take_snoc l (by rw [HM.out]; exact hlt)]; simp)
      clear hat hx
      generalize hcc : (((l.take j).reverse ++ kn).count (nth l j) : Int) = cc at *
      have HCC := Lib.hid hcc
      have e6 : IntKind.i64.wrap (cc + 1) = cc + 1 := by rw [IntKind.wrap_i64]; omega
      have hwf : (Lit.int .i64 (cc + 1)).wf = true := WalkArith.wf_i64 (by omega)
      clear hcc
      generalize hv : nth l j = v at *
      go_wp2_with (first
        | (at_lookup; refine wpList_lookup_own_int _ rfl _ _ 69 rfl 3 3 .i64 lawInt undMap undInt (zeroInt _) mb (n + j) D rfl hD _ _ rfl hkey ?_; intro c2 hat2 hwc; obtain rfl : c2 = cc := by (have h9 := lit_inj (hat2.symm.trans (HAT.out v HX.out)); have h8 := HCC.out; first | omega | (rw [if_pos rfl] at h9; omega)))
        | (at_mapUpdate; refine wpList_mapUpdate_in _ rfl _ _ _ 69 rfl 3 3 lawInt undMap _ mb (n + j) D rfl hD (by unfold maxLen; omega) _ _ _ rfl rfl hkey _ [] (plainElem_int undInt (by first | exact hwf | (rw [e6]; exact hwf))) ?_; intro w1 hown1 hturn1))
      have hg := hturn1.grown
      have HT2 := Lib.hid (show Turned mb W w1 from HT.out.trans hg)
      have HK2 := Lib.hid (show KnownIn cb_ mb nf (n + (j + 1)) ((l.take (j + 1)).reverse ++ kn) w1 from
        ⟨(hg.block cb_ HK.out.lt.1 (by have := HK.out.ne; simp; omega)).trans HK.out.chk, HK.out.ne, _, hown1, fun u hu => by
          rw [HSTEP.out, count_cons_]
          by_cases hvu : v = u
          · subst hvu
            rw [atKey_put_same hD.isMap (isKey_int v), if_pos rfl]
            have := HCC.out
            exact congrArg (fun z : Int => (DataW.lit (.int .i64 z) : DataW Unit)) (by omega)
          · rw [atKey_put_other (by simp; exact fun h => hvu h.symm), HAT.out u hu, if_neg hvu]; rfl⟩)
      clear hown1 hturn1 hg
      go_roundw
      case rel => exact ⟨j + 1, by omega, by go_num, HK2, HT2⟩
      case measure => simp [intOf]; omega
    · have e2 : ¬ (j : Int) < (M : Int) := by omega
      have hjM : j = M := by omega
      subst hjM
      have HE := Lib.hid (HK.out.count (kn' := l ++ kn) (fun v => by rw [List.take_of_length_le (by rw [HM.out]; omega)]; simp))
      go_wp2_with fail
      go_end0
      exact ⟨rfl, HE.out, HT.out⟩
set_option maxRecDepth 100000 in
set_option maxHeartbeats 2000000 in
theorem forget_any {A : Option Addr} {c : Nat} {l : List Int} (h : KnownIn cb_ mb nf n (l ++ kn) W) (hl : IntsIn W.heap.size W A l) (hlc : l.length ≤ c) (h64 : ∀ x ∈ l, In64 x) (hn : n + l.length ≤ 1000000000000) (hkn : kn.length + l.length ≤ 1000000000000) (hA : ∀ a, A = some a → a.block ≠ mb) :
    Calls Try.prog 33 #[.pointer (some ⟨cb_, 0, none⟩), .slice A l.length c] W fun e w' => e = .returned (.tuple #[]) ∧ KnownIn cb_ mb nf (n + l.length) kn w' ∧ Turned mb W w' := by
  have HL := Lib.hid (fun (j : Nat) (hj : j < l.length) (V : World) (hV : Turned mb W V) => (show ∃ b o, A = some ⟨b, o, none⟩ ∧ V.cell? ⟨b, o + j, none⟩ = some (.int .i64 (nth l j)) from by
    obtain ⟨b, o, h1, h2, h3⟩ := hl.at_ (by omega)
    exact ⟨b, o, h1, hV.cell (hA _ h1) (h3 j hj)⟩))
  have H64 := Lib.hid h64
  have hl8 := hl.1
  have hst : KnownIn cb_ mb nf (n + 0) (l.drop 0 ++ kn) W := h
  have HST := Lib.hid hst
  clear hl h64 h hA hst
  obtain ⟨M, hM⟩ : ∃ M, l.length = M := ⟨_, rfl⟩
  have HM := Lib.hid hM
  rw [hM] at hlc hn hkn HL hl8 ⊢
  clear hM
  go_enter Try.func33, Try.ntmps33
  go_wp2_with fail
  go_loopw [8] (fun iv wr => ∃ j : Nat, j ≤ M ∧ iv = .int .i64 (j : Int) ∧ Hid (KnownIn cb_ mb nf (n + j) (l.drop j ++ kn) wr) ∧ Hid (Turned mb W wr)) (fun iv _ => M + 1 - (intOf iv).toNat)
  case atStart => exact ⟨0, by omega, rfl, HST, Lib.hid (Turned.refl _ _)⟩
  case round =>
    obtain ⟨j, hj, rfl, HK, HT⟩ := hrel
    by_cases hlt : j < M
    · obtain ⟨b, o, rfl, qk⟩ := HL.out j hlt wr HT.out
      have e1 : (0 : Int) ≤ (j : Int) := by omega
      have e2 : (j : Int) < (M : Int) := by omega
      have e4 : IntKind.i64.wrap ((j : Int) + 1) = (j : Int) + 1 := by rw [IntKind.wrap_i64]; omega
      have e5 : (M : Int) ≤ (c : Int) := by omega
      have q1 : wr.cell? ⟨cb_, 1, none⟩ = some (.map (some mb)) := by simp [World.cell?, HK.out.chk]
      obtain ⟨D, hD, hat⟩ := HK.out.map
      have hx : In64 (nth l j) := H64.out _ (nth_mem l (by rw [HM.out]; exact hlt))
      have HSTEP := Lib.hid (show l.drop j ++ kn = nth l j :: (l.drop (j + 1) ++ kn) from by rw [nth_eq l (by rw [HM.out]; exact hlt), List.drop_eq_getElem_cons (by rw [HM.out]; exact hlt)]; rfl)
      have hcl : ((l.drop (j + 1) ++ kn).count (nth l j) : Int) ≤ 1000000000000 := by
        have h1 := List.count_le_length (a := nth l j) (l := l.drop (j + 1) ++ kn)
        have h2 : (l.drop (j + 1) ++ kn).length ≤ M + kn.length := by have := HM.out; simp; omega
        omega
      have hkey := keyOf_int_mk (P := Try.prog) undInt hx
      have HX := Lib.hid hx
      have HAT := Lib.hid (show ∀ u, In64 u → D.atKey (.int .i64 u) (.lit (.int .i64 0)) = .lit (.int .i64 (((l.drop (j + 1) ++ kn).count u : Int) + (if nth l j = u then 1 else 0))) from fun u hu => by
        rw [hat u hu, HSTEP.out, count_cons_]
        split <;> simp)
      clear hat hx
      obtain ⟨cc, hcc⟩ : ∃ cc : Nat, (l.drop (j + 1) ++ kn).count (nth l j) = cc := ⟨_, rfl⟩
      rw [hcc] at hcl
      have HCC := Lib.hid hcc
      have e6 : IntKind.i64.wrap ((cc : Int) + 1 - 1) = (cc : Int) := by rw [IntKind.wrap_i64]; omega
      have hwf : (Lit.int .i64 (cc : Int)).wf = true := WalkArith.wf_i64 (by omega)
      clear hcc
      generalize hv : nth l j = v at *
      have hne := Lib.hid HK.out.ne
      have hclt := Lib.hid HK.out.lt
      have hchk := Lib.hid HK.out.chk
      cases hz : ((cc : Int) == 0)
      · go_wp2_with (first
          | (at_lookup; refine wpList_lookup_own_int _ rfl _ _ 69 rfl 3 3 .i64 lawInt undMap undInt (zeroInt _) mb (n + j) D rfl hD _ _ rfl hkey ?_; intro c2 hat2 hwc; obtain rfl : c2 = (cc : Int) + 1 := by (have h9 := lit_inj (hat2.symm.trans (HAT.out v HX.out)); have h8 := HCC.out; first | omega | (rw [if_pos rfl] at h9; omega)))
          | (at_lookup; refine wpList_lookup_own_int _ rfl _ _ 69 rfl 3 3 .i64 lawInt undMap undInt (zeroInt _) mb (n + j + 1) _ rfl hown1 _ _ rfl hkey ?_; intro c3 hat3 hwc3; obtain rfl : c3 = (cc : Int) := by (rw [atKey_put_same hD.isMap (isKey_int v)] at hat3; have h9 := lit_inj hat3; omega))
          | (at_mapUpdate; refine wpList_mapUpdate_in _ rfl _ _ _ 69 rfl 3 3 lawInt undMap _ mb (n + j) D rfl hD (by unfold maxLen; omega) _ _ _ rfl rfl hkey _ [] (plainElem_int undInt (by first | exact hwf | (rw [e6]; exact hwf))) ?_; intro w1 hown1 hturn1; have p1 : w1.cell? ⟨cb_, 1, none⟩ = some (.map (some mb)) := (show Turned mb wr w1 from hturn1.grown).cell hne.out q1))
        have hg := hturn1.grown
        have HT2 := Lib.hid (show Turned mb W w1 from HT.out.trans hg)
        have HK2 := Lib.hid (show KnownIn cb_ mb nf (n + (j + 1)) (l.drop (j + 1) ++ kn) w1 from
          ⟨(hg.block cb_ hclt.out.1 (by have := hne.out; simp; omega)).trans hchk.out, hne.out, _, hown1, fun u hu => by
            by_cases hvu : v = u
            · subst hvu
              rw [atKey_put_same hD.isMap (isKey_int v), HCC.out]
            · rw [atKey_put_other (by simp; exact fun h => hvu h.symm), HAT.out u hu, if_neg hvu]; simp⟩)
        clear hown1 hturn1 hg
        go_roundw
        case rel => exact ⟨j + 1, by omega, by go_num, HK2, HT2⟩
        case measure => simp [intOf]; omega
      · go_wp2_with (first
          | (at_lookup; refine wpList_lookup_own_int _ rfl _ _ 69 rfl 3 3 .i64 lawInt undMap undInt (zeroInt _) mb (n + j) D rfl hD _ _ rfl hkey ?_; intro c2 hat2 hwc; obtain rfl : c2 = (cc : Int) + 1 := by (have h9 := lit_inj (hat2.symm.trans (HAT.out v HX.out)); have h8 := HCC.out; first | omega | (rw [if_pos rfl] at h9; omega)))
          | (at_lookup; refine wpList_lookup_own_int _ rfl _ _ 69 rfl 3 3 .i64 lawInt undMap undInt (zeroInt _) mb (n + j + 1) _ rfl hown1 _ _ rfl hkey ?_; intro c3 hat3 hwc3; obtain rfl : c3 = (cc : Int) := by (rw [atKey_put_same hD.isMap (isKey_int v)] at hat3; have h9 := lit_inj hat3; omega))
          | (at_mapUpdate; refine wpList_mapUpdate_in _ rfl _ _ _ 69 rfl 3 3 lawInt undMap _ mb (n + j) D rfl hD (by unfold maxLen; omega) _ _ _ rfl rfl hkey _ [] (plainElem_int undInt (by first | exact hwf | (rw [e6]; exact hwf))) ?_; intro w1 hown1 hturn1; have p1 : w1.cell? ⟨cb_, 1, none⟩ = some (.map (some mb)) := (show Turned mb wr w1 from hturn1.grown).cell hne.out q1)
          | (at_delete; refine wpList_delete_own _ rfl _ _ 69 3 rfl 3 lawInt undMap _ mb (n + j + 1) _ rfl hown1 _ _ rfl hkey ?_; intro w2 hown2 hturn2))
        have hg := hturn1.grown
        have hg2 := hturn2.grown
        have HT2 := Lib.hid (show Turned mb W w2 from HT.out.trans (Turned.trans hg hg2))
        have HK2 := Lib.hid (show KnownIn cb_ mb nf (n + (j + 1)) (l.drop (j + 1) ++ kn) w2 from
          ⟨((Turned.trans hg hg2).block cb_ hclt.out.1 (by have := hne.out; simp; omega)).trans hchk.out, hne.out, _, hown2, fun u hu => by
            by_cases hvu : v = u
            · subst hvu
              rw [atKey_del_same, HCC.out]
              simp at hz
              simp [hz]
            · rw [atKey_del_other (by simp; exact fun h => hvu h.symm), atKey_put_other (by simp; exact fun h => hvu h.symm), HAT.out u hu, if_neg hvu]; simp⟩)
        clear hown1 hturn1 hg hown2 hturn2 hg2
        go_roundw
        case rel => exact ⟨j + 1, by omega, by go_num, HK2, HT2⟩
        case measure => simp [intOf]; omega
    · have e2 : ¬ (j : Int) < (M : Int) := by omega
      have hjM : j = M := by omega
      subst hjM
      have HE := Lib.hid (HK.out.count (kn' := kn) (fun v => by rw [List.drop_of_length_le (by rw [HM.out]; omega)]; simp))
      go_wp2_with fail
      go_end0
      exact ⟨rfl, HE.out, HT.out⟩
end
end Go.Proofs.Ytnobggabjpcbfaa

/-
  clos: what a body asks for; sizes of bodies.
-/
set_option linter.unusedVariables false
set_option linter.unusedSimpArgs false
namespace Go.Proofs.Ytnobggabjpcbfaa
open Go.RowKit Go.Maps

mutual
/-- binds and keys in all blocks -/
def szA : Anf → Nat
  | .ret _ => 0
  | .bind _ _ _ _ ks bl r => 1 + ks.length + szL bl + szA r
def szL : List Anf → Nat
  | [] => 0
  | c :: cs => szA c + szL cs
end
mutual
/-- atoms' numbers are 64 bits wide -/
def rngA : Anf → Prop
  | .ret a => In64 a.n
  | .bind _ _ _ ats _ bl r => (∀ a ∈ ats, In64 a.n) ∧ rngL bl ∧ rngA r
def rngL : List Anf → Prop
  | [] => True
  | c :: cs => rngA c ∧ rngL cs
end
theorem rngL_at : ∀ {bl : List Anf}, rngL bl → ∀ c ∈ bl, rngA c
  | c :: cs, h, d, hd => by
    unfold rngL at h
    rcases List.mem_cons.1 hd with rfl | hd
    · exact h.1
    · exact rngL_at h.2 d hd
theorem rngA_tail : ∀ {t : Anf}, rngA t → ∀ j, rngA (t.tail j)
  | t, h, 0 => by rw [Anf.tail_zero]; exact h
  | .ret a, h, j + 1 => h
  | .bind _ _ _ _ _ _ r, h, j + 1 => by
    unfold rngA at h
    exact rngA_tail h.2.2 j
theorem rngA_last : ∀ {t : Anf}, rngA t → In64 t.last.n
  | .ret a, h => h
  | .bind _ _ _ _ _ _ r, h => by
    unfold rngA at h
    exact rngA_last (t := r) h.2.2
theorem szL_at : ∀ {bl : List Anf}, ∀ c ∈ bl, szA c ≤ szL bl
  | c :: cs, d, hd => by
    unfold szL
    rcases List.mem_cons.1 hd with rfl | hd
    · omega
    · have := szL_at d hd; omega
theorem szL_drop : ∀ {bl : List Anf} {q : Nat} (hq : q < bl.length), szL (bl.drop q) = szA bl[q] + szL (bl.drop (q + 1))
  | c :: cs, 0, _ => by simp [szL]
  | c :: cs, q + 1, hq => by
    have := szL_drop (bl := cs) (q := q) (by simpa using hq)
    simpa using this
theorem blocksE_drop {nf : Nat} {kn : List Int} : ∀ {bl : List Anf} {q : Nat} (hq : q < bl.length), blocksE nf kn (bl.drop q) = if bodyE nf kn bl[q] ≠ 0 then bodyE nf kn bl[q] else blocksE nf kn (bl.drop (q + 1))
  | c :: cs, 0, _ => by simp [blocksE]
  | c :: cs, q + 1, hq => by
    have := blocksE_drop (nf := nf) (kn := kn) (bl := cs) (q := q) (by simpa using hq)
    simpa using this
theorem in64_var {n : Int} (h : varB n = true) : In64 n := by
  have := inB_iff.1 h
  exact in64_small (by omega) (by omega)
section
variable {cb_ mb nf n vb : Nat} {kn : List Int} {W V : World}
theorem body1_any (h : KnownIn cb_ mb nf n kn W) (hv : W.cell? ⟨vb, 0, none⟩ = some (.pointer (some ⟨cb_, 0, none⟩))) (a : Atm) (ha : In64 a.n) :
    Calls Try.prog 47 #[.agg #[.bool a.v, .int .i64 a.n], .pointer (some ⟨vb, 0, none⟩)] W fun e w' => e = .returned (.bool (!asksB kn a)) ∧ Below W.heap.size W w' := by
  obtain ⟨W0, hW0⟩ : ∃ W0, W.alloc (.cells #[.bool a.v, .int .i64 a.n] 25) = W0 := ⟨_, rfl⟩
  have hb0 : Below W.heap.size W W0 := by rw [← hW0]; exact (Below.refl _ _).alloc (Nat.le_refl _) _
  have c0 : W0.cell? ⟨W.heap.size, 0, none⟩ = some (.bool a.v) := by rw [← hW0, World.cell?_alloc_at _ _ _ _ rfl]; rfl
  have c1 : W0.cell? ⟨W.heap.size, 1, none⟩ = some (.int .i64 a.n) := by rw [← hW0, World.cell?_alloc_at _ _ _ _ rfl]; rfl
  have q1 := cell_behind hb0 hv
  have HC := Lib.hid (casks_any (h.below hb0) a ha)
  have HB := Lib.hid hb0
  clear h hb0 hv
  generalize a.v = av at *
  generalize a.n = an at *
  go_enter Try.func47, Try.ntmps47
  go_wp2_with fail
  refine HC.out.mono ?_
  rintro en w' ⟨rfl, hb⟩
  go_wp2_with fail
  go_ret
  exact ⟨rfl, HB.out.trans (hb.mono HB.out.size)⟩
theorem asked_any (h : KnownIn cb_ mb nf n kn W) (hv : W.cell? ⟨vb, 0, none⟩ = some (.pointer (some ⟨cb_, 0, none⟩))) {ats : List Atm} {Aa : Option Addr} {ca : Nat} (ha : AtomsIn W.heap.size W Aa ats) (hac : ats.length ≤ ca) (hr : ∀ a ∈ ats, In64 a.n) :
    Calls Try.prog 46 #[.slice Aa ats.length ca, .func (.func 47) #[] #[.pointer (some ⟨vb, 0, none⟩)]] W fun e w' => e = .returned (.bool (!ats.all (asksB kn))) ∧ Below W.heap.size W w' :=
  (contains_ask ha hac (fun a => !asksB kn a) (fun a hm V hV => body1_any (h.below hV) (cell_behind hV hv) a (hr a hm))).mono fun e w' h => ⟨h.1.trans (ret_bool (by rw [Bool.eq_iff_iff]; simp)), h.2⟩
end
end Go.Proofs.Ytnobggabjpcbfaa

/-
  clos: a body.
-/
set_option linter.unusedVariables false
set_option linter.unusedSimpArgs false
namespace Go.Proofs.Ytnobggabjpcbfaa
open Go.RowKit Go.Maps

/-- what stands behind some binds -/
structure CBody (cb_ mb nf n : Nat) (kn : List Int) (W0 : World) (t : Anf) (out : Int) (j : Nat) (mv : Value) (wr : World) (kj mine : List Int) (nn : Nat) : Prop where
  known : KnownIn cb_ mb nf nn kj wr
  turn : Turned mb W0 wr
  out : out = bodyE nf kj (t.tail j)
  cnt : ∀ v, (mine ++ kn).count v = kj.count v
  row : wr.ownsRow W0.heap.size 3 1 mv mine.length (mine.map (Value.int .i64))
  in64 : ∀ x ∈ mine, In64 x
  b1 : nn + 2 * szA (t.tail j) + mine.length ≤ n + 2 * szA t
  b2 : kj.length + szA (t.tail j) ≤ kn.length + szA t
  b3 : mine.length + szA (t.tail j) ≤ szA t
theorem own_turned {mb : Nat} {w w' : World} {base : Nat} {e : TypeId} {v : Value} {n : Nat} {xs : List Value} (h : w.ownsRow base e 1 v n xs) (hT : Turned mb w w') (hb : mb < base) : w'.ownsRow base e 1 v n xs := by
  refine h.kept hT ?_
  cases ho : v.ownBlock with
  | none => exact .inl rfl
  | some k => exact .inr (by have := (h.lt k ho).1; simp; omega)
theorem bodyE_bind {nf : Nat} {kn : List Int} {x k n : Int} {ats : List Atm} {ks : List Int} {bl : List Anf} {rest : Anf} (h : bindE nf x k n ats ks bl.length = 0) :
    bodyE nf kn (.bind x k n ats ks bl rest) = if ats.all (asksB (if k = 10 then groupV ks ++ kn else kn)) = false then 16
      else if blocksE nf (if k = 10 then groupV ks ++ kn else kn) bl ≠ 0 then blocksE nf (if k = 10 then groupV ks ++ kn else kn) bl
      else bodyE nf (if k = 10 then groupV ks ++ kn else x :: kn) rest := by
  show (if _ then _ else _) = _
  rw [if_neg (by simp [h])]
theorem bodyE_wrong {nf : Nat} {kn : List Int} {x k n : Int} {ats : List Atm} {ks : List Int} {bl : List Anf} {rest : Anf} (h : bindE nf x k n ats ks bl.length ≠ 0) : bodyE nf kn (.bind x k n ats ks bl rest) = bindE nf x k n ats ks bl.length := by
  show (if _ then _ else _) = _
  rw [if_pos h]
theorem groupV_all {nf : Nat} {x n : Int} {ats : List Atm} {ks : List Int} {nb : Nat} (h : BindOk nf x 10 n ats ks nb) : ∀ y ∈ groupV ks, In64 y := by
  have h2 := h.number
  simp only [numberB, Bool.and_eq_true] at h2
  have h3 := h2.1.1.2
  simp at h3
  exact fun y hy => in64_var (h3 y hy)
theorem bind_var {nf : Nat} {x k n : Int} {ats : List Atm} {ks : List Int} {nb : Nat} (h : BindOk nf x k n ats ks nb) : In64 x := by
  have h2 := h.number
  simp only [numberB, Bool.and_eq_true] at h2
  exact in64_var h2.1.1.1
theorem bind_noblocks {nf : Nat} {x k n : Int} {ats : List Atm} {ks : List Int} {bl : List Anf} (h : BindOk nf x k n ats ks bl.length) (hk : k ≠ 8) : bl = [] := by
  have h1 := h.bare
  simp only [bareB, Bool.and_eq_true] at h1
  have h2 := h1.2
  simp [hasB, hk] at h2
  exact List.length_eq_zero_iff.1 (by simpa using h2)

theorem KnownIn.cellNe {cb_ mb nf n : Nat} {kn : List Int} {W : World} (h : KnownIn cb_ mb nf n kn W) {q o : Nat} {v : Value} (hc : W.cell? ⟨q, o, none⟩ = some v) : q ≠ mb := by
  rintro rfl
  obtain ⟨D, ⟨es, clock, e1, _⟩, _⟩ := h.map
  simp [World.cell?, e1] at hc
theorem KnownIn.grown {cb_ mb nf n : Nat} {kn : List Int} {W V : World} {row : Option Nat} (h : KnownIn cb_ mb nf n kn W) (hg : W.grownBy V row) (hr : ∀ k, row = some k → cb_ < k ∧ mb < k) : KnownIn cb_ mb nf n kn V := by
  refine ⟨(hg.block cb_ h.lt.1 (fun e => by have := (hr cb_ e.symm).1; omega)).trans h.chk, h.ne, ?_⟩
  obtain ⟨D, h1, h2⟩ := h.map
  exact ⟨D, h1.kept hg (fun e => by have := (hr mb e.symm).2; omega), h2⟩
theorem Turned.grown {mb : Nat} {W0 V V2 : World} {row : Option Nat} (h : Turned mb W0 V) (hg : V.grownBy V2 row) (hr : ∀ k, row = some k → W0.heap.size ≤ k) : Turned mb W0 V2 :=
  ⟨hg.os.trans h.os, hg.tape.trans h.tape, hg.output.trans h.output, Nat.le_trans h.size hg.size, fun i hi hn => (hg.block i (Nat.lt_of_lt_of_le hi h.size) (fun e => by have := hr i e.symm; omega)).trans (h.block i hi hn)⟩
theorem addr_add (b o j : Nat) : (⟨b, o, none⟩ : Addr).add j = ⟨b, o + j, none⟩ := by unfold Addr.add; split <;> simp_all

section
variable {cb_ mb nf : Nat}
set_option maxRecDepth 100000 in
set_option maxHeartbeats 8000000 in
theorem cbody_any (hnf : nf ≤ 1000000) {B : Nat} (hBm : B ≤ mb) (t : Anf) : ∀ (n : Nat) (kn : List Int) (W : World) (v : Array Value), BodyIn B W t v → B ≤ W.heap.size → rngA t → KnownIn cb_ mb nf n kn W → n + 2 * szA t ≤ 1000000000 → kn.length + szA t ≤ 1000000000 →
    Calls Try.prog 32 #[.pointer (some ⟨cb_, 0, none⟩), .agg v] W fun e w' => e = .returned (.int .i64 (bodyE nf kn t)) ∧ KnownIn cb_ mb nf (n + 2 * szA t) kn w' ∧ Turned mb W w' := by
  induction hs : SizeOf.sizeOf t using Nat.strongRecOn generalizing t with
  | _ sz ih =>
    subst hs
    intro n kn W v hin hBW hrng hk hn1 hn2
    obtain ⟨A, c, b, o, rfl, hc, h96, hA, hB⟩ := hin.at_
    obtain ⟨Wc, hWc⟩ : ∃ Wc, W.alloc (.cells #[.pointer (some ⟨cb_, 0, none⟩)] 68) = Wc := ⟨_, rfl⟩
    obtain ⟨W0, hW0⟩ : ∃ W0, Wc.alloc (.cells #[.slice A t.len c, .bool t.last.v, .int .i64 t.last.n] 27) = W0 := ⟨_, rfl⟩
    have hsc : Wc.heap.size = W.heap.size + 1 := by rw [← hWc]; simp
    have hb0 : Below W.heap.size W W0 := by rw [← hW0, ← hWc]; exact below_two _ _ _
    have hs0 : W0.heap.size = W.heap.size + 2 := by rw [← hW0, World.size_alloc, hsc]
    have hn0 : W0.heap[W.heap.size]? = some (.cells #[.pointer (some ⟨cb_, 0, none⟩)] 68 (0, 0)) := by rw [← hW0, ← hWc]; exact two_new1 _ _ _
    have hn1' : W0.heap[W.heap.size + 1]? = some (.cells #[.slice A t.len c, .bool t.last.v, .int .i64 t.last.n] 27 (0, 0)) := by rw [← hW0, ← hWc]; exact two_new2 _ _ _
    have hlt := hk.lt
    have HC := Lib.hid (fun (V : World) (hV : Turned mb W0 V) => (show V.cell? ⟨W.heap.size, 0, none⟩ = some (.pointer (some ⟨cb_, 0, none⟩)) ∧ V.cell? ⟨W.heap.size + 1, 0, none⟩ = some (.slice A t.len c) ∧ V.cell? ⟨W.heap.size + 1, 1, none⟩ = some (.bool t.last.v) ∧ V.cell? ⟨W.heap.size + 1, 2, none⟩ = some (.int .i64 t.last.n) from
      ⟨hV.cell (by omega) (by simp [World.cell?, hn0]), hV.cell (by omega) (by simp [World.cell?, hn1']), hV.cell (by omega) (by simp [World.cell?, hn1']), hV.cell (by omega) (by simp [World.cell?, hn1'])⟩))
    obtain ⟨cA, cB, cC, cD⟩ := HC.out W0 (Turned.refl _ _)
    have HBV := Lib.hid (fun (V : World) (hV : Turned mb W0 V) => (show Below B W V from (hb0.mono hBW).trans (hV.below hBm (by omega))))
    have HBI := Lib.hid (fun (j : Nat) (hj : j < t.len) (V : World) (hV : Turned mb W0 V) =>
      (show ∃ x k nn ats ks bl Aa ca Ak ck Al cl, A = some ⟨b, o, none⟩ ∧ t.tail j = .bind x k nn ats ks bl (t.tail (j + 1)) ∧ (V.cell? ⟨b, o + j * 6, none⟩ = some (.int .i64 x) ∧ V.cell? ⟨b, o + j * 6 + 1, none⟩ = some (.int .i64 k) ∧ V.cell? ⟨b, o + j * 6 + 2, none⟩ = some (.int .i64 nn) ∧
          V.cell? ⟨b, o + j * 6 + 3, none⟩ = some (.slice Aa ats.length ca) ∧ V.cell? ⟨b, o + j * 6 + 4, none⟩ = some (.slice Ak ks.length ck) ∧ V.cell? ⟨b, o + j * 6 + 5, none⟩ = some (.slice Al bl.length cl)) ∧
          Hid (∀ V2 : World, Turned mb W0 V2 → AtomsIn V2.heap.size V2 Aa ats ∧ IntsIn V2.heap.size V2 Ak ks) ∧ ats.length ≤ ca ∧ ks.length ≤ ck ∧ bl.length ≤ cl ∧ bl.length * 40 ≤ 140737488351232 ∧ (∀ a ∈ ats, In64 a.n) ∧
          Hid (∀ q (hq : q < bl.length) (V2 : World), Turned mb W0 V2 → ∃ bb oo A0 n0 c0 r0 r1, Al = some ⟨bb, oo, none⟩ ∧ V2.cell? ⟨bb, oo + q * 3, none⟩ = some (.slice A0 n0 c0) ∧ V2.cell? ⟨bb, oo + q * 3 + 1, none⟩ = some (.bool r0) ∧ V2.cell? ⟨bb, oo + q * 3 + 2, none⟩ = some (.int .i64 r1) ∧
            ∀ (V3 : World) (n3 : Nat) (kn3 : List Int), Turned mb W0 V3 → KnownIn cb_ mb nf n3 kn3 V3 → n3 + 2 * szA bl[q] ≤ 1000000000 → kn3.length + szA bl[q] ≤ 1000000000 → Calls Try.prog 32 #[.pointer (some ⟨cb_, 0, none⟩), .agg #[.slice A0 n0 c0, .bool r0, .int .i64 r1]] V3 fun e w' => e = .returned (.int .i64 (bodyE nf kn3 bl[q])) ∧ KnownIn cb_ mb nf (n3 + 2 * szA bl[q]) kn3 w' ∧ Turned mb V3 w') from by
        obtain ⟨x, k, nn, ats, ks, bl, Aa, ca, Ak, ck, Al, cl, h1, h2⟩ := hB j hj
        have hbV := HBV.out V hV
        have hr : rngA (.bind x k nn ats ks bl (t.tail (j + 1))) := by rw [← h1]; exact rngA_tail hrng j
        unfold rngA at hr
        refine ⟨x, k, nn, ats, ks, bl, Aa, ca, Ak, ck, Al, cl, hA (by omega), h1, ⟨(hbV.cell (p := ⟨_, _, none⟩) h2.lt).trans h2.c0, (hbV.cell (p := ⟨_, _, none⟩) h2.lt).trans h2.c1, (hbV.cell (p := ⟨_, _, none⟩) h2.lt).trans h2.c2, (hbV.cell (p := ⟨_, _, none⟩) h2.lt).trans h2.c3, (hbV.cell (p := ⟨_, _, none⟩) h2.lt).trans h2.c4, (hbV.cell (p := ⟨_, _, none⟩) h2.lt).trans h2.c5⟩,
          Lib.hid (fun V2 hV2 => ⟨(h2.ha.below (HBV.out V2 hV2)).mono (Nat.le_trans hBW (HBV.out V2 hV2).size), (h2.hk.below (HBV.out V2 hV2)).mono (Nat.le_trans hBW (HBV.out V2 hV2).size)⟩), h2.hac, h2.hkc, h2.hlc, h2.hl8, hr.1, Lib.hid (fun q hq V2 hV2 => ?_)⟩
        obtain ⟨bb, oo, g0, g1, g2, e1, e2, e3, e4, e5, hbd⟩ := h2.blk q hq
        have hbV2 := HBV.out V2 hV2
        have hbd0 := hbd
        obtain ⟨A0, d0, b0, o0, hvv, -⟩ := hbd.at_
        simp only [Array.mk.injEq, List.cons.injEq, and_true] at hvv
        obtain ⟨rfl, rfl, rfl⟩ := hvv
        refine ⟨bb, oo, A0, _, d0, _, _, e1, (hbV2.cell (p := ⟨_, _, none⟩) e2).trans e3, (hbV2.cell (p := ⟨_, _, none⟩) e2).trans e4, (hbV2.cell (p := ⟨_, _, none⟩) e2).trans e5, fun V3 n3 kn3 hV3 hk3 hn3 hl3 => ?_⟩
        exact ih _ (size_block h1 (List.getElem_mem hq)) bl[q] rfl n3 kn3 V3 _ (hbd0.kept (HBV.out V3 hV3)) (Nat.le_trans hBW (HBV.out V3 hV3).size) (rngL_at hr.2.1 _ (List.getElem_mem hq)) hk3 hn3 hl3))
    have HT := Lib.hid (Anf.tail_ret t)
    obtain ⟨out, hout⟩ : ∃ o, bodyE nf kn t = o := ⟨_, rfl⟩
    have hst : CBody cb_ mb nf n kn W0 t out 0 (.slice none 0 0) W0 kn [] n := ⟨hk.below hb0, Turned.refl _ _, by rw [Anf.tail_zero]; exact hout.symm, fun v => rfl, ⟨by simp, .inl ⟨rfl, rfl⟩⟩, by simp, by rw [Anf.tail_zero]; simp, by rw [Anf.tail_zero]; omega, by rw [Anf.tail_zero]; simp⟩
    have HST := Lib.hid hst
    rw [hout]
    have HLR := Lib.hid (rngA_last hrng)
    have hmW : mb < W0.heap.size := by omega
    have HCM := Lib.hid (show cb_ < W0.heap.size ∧ mb < W0.heap.size from by omega)
    have HS0 := Lib.hid hmW
    -- the way out
    have HEND := Lib.hid (fun (V : World) (kj mine : List Int) (nn : Nat) (mv : Value) (hkn : KnownIn cb_ mb nf nn kj V) (hT : Turned mb W0 V) (hcnt : ∀ v, (mine ++ kn).count v = kj.count v) (hrow : V.ownsRow W0.heap.size 3 1 mv mine.length (mine.map (Value.int .i64))) (h64 : ∀ x ∈ mine, In64 x) (hb1 : nn + mine.length ≤ n + 2 * szA t) (hb3 : mine.length ≤ szA t) =>
      (show ∃ A' c', mv = .slice A' mine.length c' ∧ Calls Try.prog 33 #[.pointer (some ⟨cb_, 0, none⟩), .slice A' mine.length c'] V fun e w' => e = .returned (.tuple #[]) ∧ KnownIn cb_ mb nf (n + 2 * szA t) kn w' ∧ Turned mb W w' from by
        obtain ⟨A', c', rfl, h1, h2⟩ := own_intsD hrow (by omega)
        refine ⟨A', c', rfl, (forget_any (kn := kn) (hkn.count hcnt) h1 h2 h64 (by omega) (by omega) (fun a ha => ?_)).mono fun e w' h => ⟨h.1, h.2.1.mono hb1, (Turned.of_below hb0).trans (hT.trans h.2.2)⟩⟩
        subst ha
        have := (hrow.lt a.block rfl).1
        omega))
    clear hst hout hB hin hk hrng ih hA hn0 hn1' hs0 hb0 hlt
    have hT64 : t.len ≤ 2000000000000 := by omega
    have HZ := Lib.hid (rfl : szA t = szA t)
    obtain ⟨T, hT⟩ : ∃ T, t.len = T := ⟨_, rfl⟩
    rw [hT] at hc h96 hW0 HC HBI HT hT64 cB ⊢
    clear hT h96
    go_enter Try.func32, Try.ntmps32
    go_wp2_with fail
    try go_step3
    go_wp2_with fail
    try go_step3
    go_wp2_with fail
    go_loopw [4, 5, 14] (fun ev mv iv wr => ∃ (j : Nat) (kj mine : List Int) (nn : Nat), j ≤ T ∧ iv = .int .i64 (j : Int) ∧ ev = .int .i64 0 ∧ Hid (CBody cb_ mb nf n kn W0 t out j mv wr kj mine nn)) (fun _ _ iv _ => T + 1 - (intOf iv).toNat)
    case atStart => exact ⟨0, kn, [], n, by omega, rfl, rfl, HST⟩
    case round =>
      obtain ⟨wo, rfl⟩ : ∃ wo, wo = wr := ⟨_, rfl⟩
      obtain ⟨j, kj, mine, nn, hj, rfl, rfl, HJ⟩ := hrel
      obtain ⟨r0, r1, r2, r3⟩ := HC.out wo HJ.out.turn
      by_cases hlt : j < T
      · obtain ⟨x, k, n2, ats, ks, bl, Aa, ca, Ak, ck, Al, cl, rfl, htail, ⟨s0, s1, s2, s3, s4, s5⟩, HLI, hac, hkc, hblc, hb40, hr64, HBL⟩ := HBI.out j hlt wo HJ.out.turn
        have e1 : (0 : Int) ≤ (j : Int) := by omega
        have e2 : (j : Int) < (T : Int) := by omega
        have e4 : IntKind.i64.wrap ((j : Int) + 1) = (j : Int) + 1 := by rw [IntKind.wrap_i64]; omega
        have e5 : (T : Int) ≤ (c : Int) := by omega
        obtain ⟨W1, hW1⟩ : ∃ W1, wo.alloc (.cells #[.int .i64 x, .int .i64 k, .int .i64 n2, .slice Aa ats.length ca, .slice Ak ks.length ck, .slice Al bl.length cl] 54) = W1 := ⟨_, rfl⟩
        have hb1 : Below wo.heap.size wo W1 := by rw [← hW1]; exact (Below.refl _ _).alloc (Nat.le_refl _) _
        have hnew : W1.heap[wo.heap.size]? = some (.cells #[.int .i64 x, .int .i64 k, .int .i64 n2, .slice Aa ats.length ca, .slice Ak ks.length ck, .slice Al bl.length cl] 54 (0, 0)) := by rw [← hW1]; exact World.alloc_heap_new wo _
        have hwo := HJ.out.turn.size
        have HW1 := Lib.hid (show wo.heap.size < W1.heap.size from by rw [← hW1]; simp)
        have HT1 := Lib.hid (HJ.out.turn.trans (Turned.of_below hb1))
        have HK1 := Lib.hid (HJ.out.known.below hb1)
        have HRW1 := Lib.hid (own_turned HJ.out.row (Turned.of_below hb1) hmW)
        have HRLT := Lib.hid (fun (g : Nat) (hg : u5.ownBlock = some g) => (show W0.heap.size ≤ g ∧ g < wo.heap.size from HJ.out.row.lt g hg))
        have HD := Lib.hid (fun (V : World) (hV : V.heap[wo.heap.size]? = W1.heap[wo.heap.size]?) => (show V.cell? ⟨wo.heap.size, 0, none⟩ = some (.int .i64 x) ∧ V.cell? ⟨wo.heap.size, 1, none⟩ = some (.int .i64 k) ∧ V.cell? ⟨wo.heap.size, 2, none⟩ = some (.int .i64 n2) ∧ V.cell? ⟨wo.heap.size, 3, none⟩ = some (.slice Aa ats.length ca) ∧ V.cell? ⟨wo.heap.size, 4, none⟩ = some (.slice Ak ks.length ck) ∧ V.cell? ⟨wo.heap.size, 5, none⟩ = some (.slice Al bl.length cl) from by
          have h := hV.trans hnew
          exact ⟨by simp [World.cell?, h], by simp [World.cell?, h], by simp [World.cell?, h], by simp [World.cell?, h], by simp [World.cell?, h], by simp [World.cell?, h]⟩))
        obtain ⟨t0, t1, t2, t3, t4, t5⟩ := HD.out W1 rfl
        obtain ⟨v0, v1, v2, v3⟩ := HC.out W1 HT1.out
        have HBD := Lib.hid (cbind_any hnf x k n2 (Al := Al) (nb := bl.length) (cb := cl) HK1.out.chk (HLI.out W1 HT1.out).1 hac (HLI.out W1 HT1.out).2 hkc)
        have HR64 := Lib.hid hr64
        have HOUT := Lib.hid (HJ.out.out.trans (congrArg (bodyE nf kj) htail))
        have HSZ := Lib.hid (show szA (t.tail j) = 1 + ks.length + szL bl + szA (t.tail (j + 1)) from by rw [htail]; rfl)
        clear hb1 hnew htail hr64
        go_wp2_with fail
        refine HBD.out.mono ?_
        rintro en w2 ⟨rfl, hb2⟩
        have HK2 := Lib.hid (HK1.out.below hb2)
        have HT2 := Lib.hid (HT1.out.trans (Turned.of_below hb2))
        have HRW2 := Lib.hid (own_turned HRW1.out (Turned.of_below hb2) hmW)
        have HH2 := Lib.hid (hb2.block wo.heap.size HW1.out)
        have HS2 := Lib.hid (Nat.lt_of_lt_of_le HW1.out hb2.size)
        obtain ⟨x0, x1, x2, x3, x4, x5⟩ := HD.out w2 HH2.out
        obtain ⟨y0, y1, y2, y3⟩ := HC.out w2 HT2.out
        clear hb2 t0 t1 t2 t3 t4 t5 v0 v1 v2 v3 HBD
        cases hbe : (bindE nf x k n2 ats ks bl.length == 0)
        · have hne : bindE nf x k n2 ats ks bl.length ≠ 0 := by simpa using hbe
          have HF := Lib.hid (show out = bindE nf x k n2 ats ks bl.length from HOUT.out.trans (bodyE_wrong hne))
          obtain ⟨A', c', rfl, hF⟩ := HEND.out w2 kj mine nn u5 HK2.out HT2.out HJ.out.cnt HRW2.out HJ.out.in64 (by have := HJ.out.b1; omega) (by have := HJ.out.b3; omega)
          clear hne
          go_wp2_with fail
          refine hF.mono ?_
          rintro en w9 ⟨rfl, hk9, hT9⟩
          have HK9 := Lib.hid hk9
          have HT9 := Lib.hid hT9
          clear hk9 hT9 hF
          go_wp2_with fail
          rw [Exit.noGoto_ret]
          go_ret
          exact ⟨ret_int HF.out.symm, HK9.out, HT9.out⟩
        · have hz : bindE nf x k n2 ats ks bl.length = 0 := by simpa using hbe
          have hok := bindOk_of hz
          rw [hz]
          have HO2 := Lib.hid (HOUT.out.trans (bodyE_bind hz))
          clear hz hbe HOUT
          by_cases hk10 : k = 10
          · subst hk10
            obtain rfl := bind_noblocks hok (by decide)
            obtain ⟨-, hk3, -⟩ := hok.group
            have HG64 := Lib.hid (groupV_all hok)
            have HGR := Lib.hid (cgroup_any 10 n2 Aa Ak Al ats.length ca ck ([] : List Anf).length cl ks w2 (HLI.out w2 HT2.out).2 hkc)
            have HGL := Lib.hid (groupV_len ks)
            clear hok
            have HO3 := Lib.hid (show out = (if ats.all (asksB (groupV ks ++ kj)) = false then 16 else bodyE nf (groupV ks ++ kj) (t.tail (j + 1))) from HO2.out.trans (by simp [blocksE]))
            clear HO2
            generalize hG : groupV ks = G at *
            clear hG
            go_wp2_with fail
            refine HGR.out.mono ?_
            rintro en w3 ⟨Ag, cg, rfl, hi, hgc, hb3⟩
            have hgl := HGL.out
            obtain ⟨gb, go_, rfl, hgb, hgcell⟩ := hi.at_ (by omega)
            have HK3 := Lib.hid (HK2.out.below hb3)
            have HT3 := Lib.hid (HT2.out.trans (Turned.of_below hb3))
            have HRW3 := Lib.hid (own_turned HRW2.out (Turned.of_below hb3) hmW)
            have HH3 := Lib.hid ((hb3.block wo.heap.size HS2.out).trans HH2.out)
            have HS3 := Lib.hid (Nat.lt_of_lt_of_le HS2.out hb3.size)
            have hgm : gb ≠ mb := HK3.out.cellNe (hgcell 0 (by omega))
            have hb1' := HJ.out.b1
            have hb2' := HJ.out.b2
            have hb3' := HJ.out.b3
            have hsz := HSZ.out
            have HKN := Lib.hid (know_any HK3.out hi hgc HG64.out (by omega) (by omega) (fun a ha => by cases ha; exact hgm))
            have HGC := Lib.hid hgcell
            have HGM := Lib.hid hgm
            obtain ⟨y0', y1', y2', y3'⟩ := HC.out w3 HT3.out
            clear hb3 hi hgcell hgm HGR x0 x1 x2 x3 x4 x5 y0 y1 y2 y3 hb1' hb2' hb3' hsz
            have HASKF := Lib.hid (fun (V : World) (hkV : KnownIn cb_ mb nf (nn + G.length) (G ++ kj) V) (hTV : Turned mb W0 V) => asked_any hkV (HC.out V hTV).1 (HLI.out V hTV).1 hac HR64.out)
            have hml : mine.length + G.length ≤ maxLen ∧ (mine.length + G.length) * 8 ≤ 140737488355328 := by
              have h1 := HJ.out.b3
              have h2 := HSZ.out
              unfold maxLen
              omega
            obtain ⟨hml1, hml2⟩ := hml
            clear hgl
            obtain ⟨i0, hinf, hz0, hz1, hz2⟩ := info_parts infoI
            go_wp2_with fail
            refine HKN.out.mono ?_
            rintro en w4 ⟨rfl, hk4, hT4⟩
            have HK4 := Lib.hid hk4
            have HT4 := Lib.hid (HT3.out.trans hT4)
            have HRW4 := Lib.hid (own_turned HRW3.out hT4 hmW)
            have HH4 := Lib.hid ((hT4.block wo.heap.size HS3.out (by have := hwo; simp; omega)).trans HH3.out)
            have HS4 := Lib.hid (Nat.lt_of_lt_of_le HS3.out hT4.size)
            have HNW := Lib.hid (show ∀ q u, (G.map (Value.int .i64))[q]? = some u → w4.cell? ((⟨gb, go_, none⟩ : Addr).add q) = some u from fun q u hq => by
              rw [addr_add]
              simp only [List.getElem?_map, Option.map_eq_some_iff] at hq
              obtain ⟨z, hz, rfl⟩ := hq
              have hql := (List.getElem?_eq_some_iff.1 hz).1
              have := hT4.cell HGM.out (HGC.out q hql)
              rw [nth_eq _ hql] at this
              rw [this]
              rw [List.getElem?_eq_getElem hql] at hz
              cases hz; rfl)
            have HSW := Lib.hid (Nat.le_trans HT3.out.size hT4.size)
            clear hk4 hT4
            go_wp2_with (at_builtin; refine wpList_append_own_at _ rfl _ _ 30 rfl W0.heap.size 3 i0 (.int .i64 0) 1 8 undI hinf hz0 hz1 hz2 rfl (by decide) _ _ _ rfl HRW4.out ⟨gb, go_, none⟩ G.length cg (G.map (Value.int .i64)) rfl (by simp) HNW.out (by simp [Value.oneCell']) hml1 hml2 HSW.out ?_; intro v' w5 hown' hgrow _ hat; obtain ⟨z0, z1, z2, z3, z4, z5⟩ := HD.out w5 ((hgrow.block wo.heap.size HS4.out (fun e => by have := (HRLT.out wo.heap.size e.symm).2; omega)).trans HH4.out))
            have hgrow' := hgrow
            change World.grownBy _ w5 u5.ownBlock at hgrow'
            have HT5 := Lib.hid (HT4.out.grown hgrow' (fun g hg => (HRLT.out g hg).1))
            have HK5 := Lib.hid (HK4.out.grown hgrow' (fun g hg => by have := (HRLT.out g hg).1; have := HCM.out; omega))
            have HRW5 := Lib.hid (show w5.ownsRow W0.heap.size 3 1 v' (mine ++ G).length ((mine ++ G).map (Value.int .i64)) from by rw [List.length_append, List.map_append]; exact hown')
            have HH5 := Lib.hid ((hgrow'.block wo.heap.size HS4.out (fun e => by have := (HRLT.out wo.heap.size e.symm).2; omega)).trans HH4.out)
            have HS5 := Lib.hid (Nat.lt_of_lt_of_le HS4.out hgrow'.size)
            clear hgrow hgrow' hat hown' HNW HKN
            refine (HASKF.out w5 HK5.out HT5.out).mono ?_
            rintro en w6 ⟨rfl, hb6⟩
            have HK6 := Lib.hid (HK5.out.below hb6)
            have HT6 := Lib.hid (HT5.out.trans (Turned.of_below hb6))
            have HRW6 := Lib.hid (own_turned HRW5.out (Turned.of_below hb6) hmW)
            have HH6 := Lib.hid ((hb6.block wo.heap.size HS5.out).trans HH5.out)
            have HCNT := Lib.hid (show ∀ v, ((mine ++ G) ++ kn).count v = (G ++ kj).count v from fun v => by
              have := HJ.out.cnt v
              simp only [List.count_append] at this ⊢
              omega)
            have HM64 := Lib.hid (show ∀ y ∈ mine ++ G, In64 y from fun y hy => by
              rcases List.mem_append.1 hy with hy | hy
              · exact HJ.out.in64 y hy
              · exact HG64.out y hy)
            obtain ⟨x0, x1, x2, x3, x4, x5⟩ := HD.out w6 HH6.out
            obtain ⟨y0, y1, y2, y3⟩ := HC.out w6 HT6.out
            clear hb6 z0 z1 z2 z3 z4 z5
            cases hall : ats.all (asksB (G ++ kj))
            · have HF := Lib.hid (show out = 16 from HO3.out.trans (by rw [if_pos hall]))
              obtain ⟨A', c', rfl, hF⟩ := HEND.out w6 (G ++ kj) (mine ++ G) (nn + G.length) v' HK6.out HT6.out HCNT.out HRW6.out HM64.out (by have := HJ.out.b1; have := HSZ.out; have := HGL.out; simp; omega) (by have := HJ.out.b3; have := HSZ.out; have := HGL.out; simp; omega)
              rw [List.length_append] at hF
              go_wp2_with fail
              refine hF.mono ?_
              rintro en w9 ⟨rfl, hk9, hT9⟩
              have HK9 := Lib.hid hk9
              have HT9 := Lib.hid hT9
              clear hk9 hT9 hF
              go_wp2_with fail
              rw [Exit.noGoto_ret]
              go_ret
              exact ⟨ret_int HF.out.symm, HK9.out, HT9.out⟩
            · have HO4 := Lib.hid (show out = bodyE nf (G ++ kj) (t.tail (j + 1)) from HO3.out.trans (by rw [if_neg (by rw [hall]; decide)]))
              have HN := Lib.hid (show CBody cb_ mb nf n kn W0 t out (j + 1) v' w6 (G ++ kj) (mine ++ G) (nn + G.length) from
                ⟨HK6.out, HT6.out, HO4.out, HCNT.out, HRW6.out, HM64.out, by have := HJ.out.b1; have := HSZ.out; have := HGL.out; simp; omega, by have := HJ.out.b2; have := HSZ.out; have := HGL.out; simp; omega, by have := HJ.out.b3; have := HSZ.out; have := HGL.out; simp; omega⟩)
              go_wp2_with fail
              refine wp_loop_rounds 1 ?_
              rw [rounds_succ]
              go_wp2_with fail
              go_roundw
              case rel => exact ⟨j + 1, _, _, _, by omega, by go_num, rfl, HN⟩
              case measure => simp [intOf]; omega
          · have hkb : (k == 10) = false := by simpa using hk10
            have hkn : (k != 10) = true := by simpa using hk10
            have HX64 := Lib.hid (bind_var hok)
            have HO3 := Lib.hid (show out = (if ats.all (asksB kj) = false then 16 else if blocksE nf kj bl ≠ 0 then blocksE nf kj bl else bodyE nf (x :: kj) (t.tail (j + 1))) from HO2.out.trans (by simp [hk10]))
            have HASK := Lib.hid (asked_any HK2.out (HC.out w2 HT2.out).1 (HLI.out w2 HT2.out).1 hac HR64.out)
            clear hok HO2
            go_wp2_with fail
            refine HASK.out.mono ?_
            rintro en w3 ⟨rfl, hb3⟩
            have HK3 := Lib.hid (HK2.out.below hb3)
            have HT3 := Lib.hid (HT2.out.trans (Turned.of_below hb3))
            have HRW3 := Lib.hid (own_turned HRW2.out (Turned.of_below hb3) hmW)
            have HH3 := Lib.hid ((hb3.block wo.heap.size HS2.out).trans HH2.out)
            have HS3 := Lib.hid (Nat.lt_of_lt_of_le HS2.out hb3.size)
            obtain ⟨z0, z1, z2, z3, z4, z5⟩ := HD.out w3 HH3.out
            obtain ⟨a0, a1, a2, a3⟩ := HC.out w3 HT3.out
            clear hb3 HASK x0 x1 x2 x3 x4 x5 y0 y1 y2 y3
            cases hall : ats.all (asksB kj)
            · have HF := Lib.hid (show out = 16 from HO3.out.trans (by rw [if_pos hall]))
              obtain ⟨A', c', rfl, hF⟩ := HEND.out w3 kj mine nn u5 HK3.out HT3.out HJ.out.cnt HRW3.out HJ.out.in64 (by have := HJ.out.b1; omega) (by have := HJ.out.b3; omega)
              go_wp2_with fail
              refine hF.mono ?_
              rintro en w9 ⟨rfl, hk9, hT9⟩
              have HK9 := Lib.hid hk9
              have HT9 := Lib.hid hT9
              clear hk9 hT9 hF
              go_wp2_with fail
              rw [Exit.noGoto_ret]
              go_ret
              exact ⟨ret_int HF.out.symm, HK9.out, HT9.out⟩
            · have HO4 := Lib.hid (show out = (if blocksE nf kj bl ≠ 0 then blocksE nf kj bl else bodyE nf (x :: kj) (t.tail (j + 1))) from HO3.out.trans (by rw [if_neg (by rw [hall]; decide)]))
              clear HO3 hall
              go_wp2_with fail
              go_loopw [4, 45] (fun ev iv wr2 => ∃ (q nn2 : Nat), q ≤ bl.length ∧ iv = .int .i64 (q : Int) ∧ ev = .int .i64 0 ∧ Hid (KnownIn cb_ mb nf nn2 kj wr2) ∧ Hid (Turned mb w3 wr2) ∧ Hid (blocksE nf kj bl = blocksE nf kj (bl.drop q)) ∧ Hid (nn2 + 2 * szL (bl.drop q) ≤ nn + 2 * szL bl)) (fun _ iv _ => bl.length + 1 - (intOf iv).toNat)
              case atStart => exact ⟨0, nn, by omega, rfl, rfl, HK3, Lib.hid (Turned.refl _ _), Lib.hid (by simp), Lib.hid (by simp)⟩
              case round =>
                obtain ⟨wq, rfl⟩ : ∃ wq, wq = wr := ⟨_, rfl⟩
                obtain ⟨q, nn2, hq, rfl, rfl, HKq, HTq, HBq, HNq⟩ := hrel
                have HTw := Lib.hid (HT3.out.trans HTq.out)
                have HRWq := Lib.hid (own_turned HRW3.out HTq.out hmW)
                have HHq := Lib.hid ((HTq.out.block wo.heap.size HS3.out (by have := hwo; have := HS0.out; simp; omega)).trans HH3.out)
                have HSq := Lib.hid (Nat.lt_of_lt_of_le HS3.out HTq.out.size)
                obtain ⟨f0, f1, f2, f3, f4, f5⟩ := HD.out wq HHq.out
                obtain ⟨g0, g1, g2, g3⟩ := HC.out wq HTw.out
                by_cases hlq : q < bl.length
                · obtain ⟨bb, oo, A0, n0, c0', r0', r1', rfl, p0, p1, p2, hcall⟩ := HBL.out q hlq wq HTw.out
                  obtain ⟨W4, hW4⟩ : ∃ W4, wq.alloc (.cells #[.slice A0 n0 c0', .bool r0', .int .i64 r1'] 27) = W4 := ⟨_, rfl⟩
                  have hb4 : Below wq.heap.size wq W4 := by rw [← hW4]; exact (Below.refl _ _).alloc (Nat.le_refl _) _
                  have m0 : W4.cell? ⟨wq.heap.size, 0, none⟩ = some (.slice A0 n0 c0') := by rw [← hW4, World.cell?_alloc_at _ _ _ _ rfl]; rfl
                  have m1 : W4.cell? ⟨wq.heap.size, 1, none⟩ = some (.bool r0') := by rw [← hW4, World.cell?_alloc_at _ _ _ _ rfl]; rfl
                  have m2 : W4.cell? ⟨wq.heap.size, 2, none⟩ = some (.int .i64 r1') := by rw [← hW4, World.cell?_alloc_at _ _ _ _ rfl]; rfl
                  have HT4 := Lib.hid (HTw.out.trans (Turned.of_below hb4))
                  obtain ⟨b0', b1', b2', b3'⟩ := HC.out W4 HT4.out
                  have hdrop := szL_drop hlq
                  have HDR := Lib.hid hdrop
                  have HCALL := Lib.hid (hcall W4 nn2 kj HT4.out (HKq.out.below hb4) (by have h1 := HJ.out.b1; have h2 := HSZ.out; have h3 := HNq.out; omega) (by have h1 := HJ.out.b2; have h2 := HSZ.out; have h3 := szL_at (bl := bl) _ (List.getElem_mem hlq); omega))
                  have HBS := Lib.hid (HBq.out.trans (blocksE_drop hlq))
                  have d1 : (0 : Int) ≤ (q : Int) := by omega
                  have d2 : (q : Int) < (bl.length : Int) := by omega
                  have d3 : (bl.length : Int) ≤ (cl : Int) := by omega
                  have d4 : IntKind.i64.wrap ((q : Int) + 1) = (q : Int) + 1 := by rw [IntKind.wrap_i64]; omega
                  have HB4 := Lib.hid hb4
                  clear hcall hb4 hdrop
                  go_wp2_with fail
                  refine HCALL.out.mono ?_
                  rintro en w5 ⟨rfl, hk5, hT5⟩
                  have HK5 := Lib.hid hk5
                  have HTq5 := Lib.hid ((Turned.of_below HB4.out).trans hT5)
                  have HT5 := Lib.hid (HTw.out.trans HTq5.out)
                  obtain ⟨b4', b5', b6', b7'⟩ := HC.out w5 HT5.out
                  have HRW5 := Lib.hid (own_turned HRWq.out HTq5.out hmW)
                  clear hk5 hT5 HCALL
                  cases hz : (bodyE nf kj bl[q] == 0)
                  · have hne : bodyE nf kj bl[q] ≠ 0 := by simpa using hz
                    have hbe : blocksE nf kj bl = bodyE nf kj bl[q] := HBS.out.trans (by rw [if_pos hne])
                    have HF := Lib.hid (show out = bodyE nf kj bl[q] from HO4.out.trans (by rw [hbe, if_pos hne]))
                    obtain ⟨A', c', rfl, hF⟩ := HEND.out w5 kj mine (nn2 + 2 * szA bl[q]) u5 HK5.out HT5.out HJ.out.cnt HRW5.out HJ.out.in64 (by have h1 := HJ.out.b1; have h2 := HSZ.out; have h3 := HNq.out; have h4 := HDR.out; omega) (by have := HJ.out.b3; omega)
                    clear hne hbe
                    generalize bodyE nf kj bl[q] = ev at *
                    go_wp2_with fail
                    refine hF.mono ?_
                    rintro en w9 ⟨rfl, hk9, hT9⟩
                    have HK9 := Lib.hid hk9
                    have HT9 := Lib.hid hT9
                    clear hk9 hT9 hF
                    go_wp2_with fail
                    rw [Exit.noGoto_ret]
                    go_ret
                    exact ⟨ret_int HF.out.symm, HK9.out, HT9.out⟩
                  · have hze : bodyE nf kj bl[q] = 0 := by simpa using hz
                    rw [hze]
                    have HBN := Lib.hid (show blocksE nf kj bl = blocksE nf kj (bl.drop (q + 1)) from HBS.out.trans (by rw [if_neg (by simp [hze])]))
                    have HNN := Lib.hid (show nn2 + 2 * szA bl[q] + 2 * szL (bl.drop (q + 1)) ≤ nn + 2 * szL bl from by have h3 := HNq.out; have h4 := HDR.out; omega)
                    have HTQ := Lib.hid (HTq.out.trans HTq5.out)
                    clear hz hze HBS
                    go_wp2_with fail
                    go_roundw
                    case rel => exact ⟨q + 1, _, by omega, by go_num, rfl, HK5, HTQ, HBN, HNN⟩
                    case measure => simp [intOf]; omega
                · have hqe : q = bl.length := by omega
                  have hbz : blocksE nf kj bl = 0 := HBq.out.trans (by rw [List.drop_of_length_le (by omega)]; rfl)
                  have HO5 := Lib.hid (show out = bodyE nf (x :: kj) (t.tail (j + 1)) from HO4.out.trans (by rw [hbz, if_neg (by simp)]))
                  have HNE := Lib.hid (show nn2 ≤ nn + 2 * szL bl from by have := HNq.out; omega)
                  have d2 : ¬ (q : Int) < (bl.length : Int) := by omega
                  obtain ⟨Wk, hWk⟩ : ∃ Wk, wq.alloc (.cells #[.int .i64 x] 3) = Wk := ⟨_, rfl⟩
                  have hbk : Below wq.heap.size wq Wk := by rw [← hWk]; exact (Below.refl _ _).alloc (Nat.le_refl _) _
                  have hck : Wk.cell? ⟨wq.heap.size, 0, none⟩ = some (.int .i64 x) := by rw [← hWk, World.cell?_alloc_at _ _ _ _ rfl]; rfl
                  have HKW := Lib.hid (HKq.out.below hbk)
                  have HKN := Lib.hid (know_any (l := [x]) (A := some ⟨wq.heap.size, 0, none⟩) (c := 1) HKW.out ⟨by simp, .inr ⟨wq.heap.size, 0, rfl, by rw [← hWk]; simp, fun j hj => by
                    have : j = 0 := by simp at hj; omega
                    subst this
                    exact hck⟩⟩ (by simp) (by intro y hy; simp at hy; subst hy; exact HX64.out) (by have h1 := HJ.out.b1; have h2 := HSZ.out; have h3 := HNE.out; simp; omega) (by have h1 := HJ.out.b2; have h2 := HSZ.out; simp; omega) (fun a ha => by cases ha; exact HKW.out.cellNe hck))
                  have HTk := Lib.hid (HTw.out.trans (Turned.of_below hbk))
                  have HRWk := Lib.hid (own_turned HRWq.out (Turned.of_below hbk) hmW)
                  have HHk := Lib.hid ((hbk.block wo.heap.size HSq.out).trans HHq.out)
                  have HSk := Lib.hid (Nat.lt_of_lt_of_le HSq.out hbk.size)
                  obtain ⟨l0, l1, l2, l3, l4, l5⟩ := HD.out Wk HHk.out
                  obtain ⟨o0, o1, o2, o3⟩ := HC.out Wk HTk.out
                  obtain ⟨i0, hinf, hz0, hz1, hz2⟩ := info_parts infoI
                  have hml : mine.length + 1 ≤ maxLen ∧ (mine.length + 1) * 8 ≤ 140737488355328 := by
                    have h1 := HJ.out.b3
                    have h2 := HSZ.out
                    unfold maxLen
                    omega
                  obtain ⟨hml1, hml2⟩ := hml
                  clear hbk hbz hqe HBq HO4 HHq HRWq
                  go_wp2_with fail
                  refine HKN.out.mono ?_
                  rintro en w6 ⟨rfl, hk6, hT6⟩
                  have HK6 := Lib.hid (show KnownIn cb_ mb nf (nn2 + 1) (x :: kj) w6 from hk6)
                  have HT6 := Lib.hid (HTk.out.trans hT6)
                  have HRW6 := Lib.hid (own_turned HRWk.out hT6 hmW)
                  have HH6 := Lib.hid ((hT6.block wo.heap.size HSk.out (by have := hwo; have := HS0.out; simp; omega)).trans HHk.out)
                  have HSW := Lib.hid (show W0.heap.size ≤ w6.heap.size from HT6.out.size)
                  obtain ⟨s0', s1', s2', s3', s4', s5'⟩ := HD.out w6 HH6.out
                  clear hk6 hT6 HKN
                  go_wp2_with (at_builtin; refine wpList_append_own_at _ rfl _ _ 30 rfl W0.heap.size 3 i0 (.int .i64 0) 1 8 undI hinf hz0 hz1 hz2 rfl (by decide) _ _ _ rfl (HRW6.out.alloc _) ⟨w6.heap.size, 0, none⟩ 1 1 [.int .i64 x] rfl rfl (cell_one_new _ _ _) (by simp [Value.oneCell']) hml1 hml2 (by rw [World.size_alloc]; exact Nat.le_succ_of_le HSW.out) ?_; intro v' w7 hown' hgrow _ hat)
                  have hgrow' := hgrow
                  change World.grownBy _ w7 u5.ownBlock at hgrow'
                  have hal : Below w6.heap.size w6 (w6.alloc (.cells #[.int .i64 x] 3)) := (Below.refl _ _).alloc (Nat.le_refl _) _
                  have HT7 := Lib.hid ((HT6.out.trans (Turned.of_below hal)).grown hgrow' (fun g hg => (HRLT.out g hg).1))
                  have HK7 := Lib.hid ((HK6.out.below hal).grown hgrow' (fun g hg => by have := (HRLT.out g hg).1; have := HCM.out; omega))
                  have HN := Lib.hid (show CBody cb_ mb nf n kn W0 t out (j + 1) v' w7 (x :: kj) (mine ++ [x]) (nn2 + 1) from
                    ⟨HK7.out, HT7.out, HO5.out, fun v => by
                      have := HJ.out.cnt v
                      simp only [List.count_append, List.count_cons, List.count_nil] at this ⊢
                      omega, by rw [List.length_append, List.map_append]; exact hown', fun y hy => by
                      rcases List.mem_append.1 hy with hy | hy
                      · exact HJ.out.in64 y hy
                      · simp at hy; subst hy; exact HX64.out, by have := HJ.out.b1; have := HSZ.out; have := HNE.out; simp; omega, by have := HJ.out.b2; have := HSZ.out; simp; omega, by have := HJ.out.b3; have := HSZ.out; simp; omega⟩)
                  clear hgrow hgrow' hat hown' hal
                  go_roundw
                  case rel => exact ⟨j + 1, _, _, _, by omega, by go_num, rfl, HN⟩
                  case measure => simp [intOf]; omega
      · have e2 : ¬ (j : Int) < (T : Int) := by omega
        have ho := HJ.out.out
        rw [HT.out j (by omega)] at ho
        have HO := Lib.hid (show out = (if atomB t.last = false then 2 else if asksB kj t.last = false then 16 else 0) from ho)
        have HAT := Lib.hid (show Calls Try.prog 49 #[.agg #[.bool t.last.v, .int .i64 t.last.n]] wo fun e w' => e = .returned (.bool (atomB t.last)) ∧ Below wo.heap.size wo w' from catom_any t.last.v t.last.n wo)
        have HAS := Lib.hid (fun (V : World) (hV : Below wo.heap.size wo V) => casks_any (HJ.out.known.below hV) t.last HLR.out)
        have HEN := Lib.hid (fun (V : World) (hV : Below wo.heap.size wo V) => HEND.out V kj mine nn u5 (HJ.out.known.below hV) (HJ.out.turn.trans (Turned.of_below hV)) HJ.out.cnt (own_turned HJ.out.row (Turned.of_below hV) hmW) HJ.out.in64 (by have := HJ.out.b1; omega) (by have := HJ.out.b3; omega))
        have HCC := Lib.hid (fun (V : World) (hV : Below wo.heap.size wo V) => HC.out V (HJ.out.turn.trans (Turned.of_below hV)))
        clear ho
        go_wp2_with fail
        refine HAT.out.mono ?_
        rintro en w2 ⟨rfl, hb2⟩
        obtain ⟨p0, p1, p2, p3⟩ := HCC.out w2 hb2
        have HB2 := Lib.hid hb2
        clear hb2
        cases h1 : atomB t.last
        · have HF := Lib.hid (show out = 2 from HO.out.trans (by rw [if_pos h1]))
          obtain ⟨A', c', rfl, hF⟩ := HEN.out w2 HB2.out
          go_wp2_with fail
          refine hF.mono ?_
          rintro en w9 ⟨rfl, hk9, hT9⟩
          have HK9 := Lib.hid hk9
          have HT9 := Lib.hid hT9
          clear hk9 hT9 hF
          go_wp2_with fail
          rw [Exit.noGoto_ret]
          go_ret
          exact ⟨ret_int HF.out.symm, HK9.out, HT9.out⟩
        · have HA2 := Lib.hid (HAS.out w2 HB2.out)
          go_wp2_with fail
          refine HA2.out.mono ?_
          rintro en w3 ⟨rfl, hb3⟩
          have hb3' := HB2.out.trans (hb3.mono HB2.out.size)
          obtain ⟨p0', p1', p2', p3'⟩ := HCC.out w3 hb3'
          obtain ⟨A', c', rfl, hF⟩ := HEN.out w3 hb3'
          clear hb3 hb3'
          cases h2 : asksB kj t.last
          · have HF := Lib.hid (show out = 16 from HO.out.trans (by rw [if_neg (by rw [h1]; decide), if_pos h2]))
            go_wp2_with fail
            refine hF.mono ?_
            rintro en w9 ⟨rfl, hk9, hT9⟩
            have HK9 := Lib.hid hk9
            have HT9 := Lib.hid hT9
            clear hk9 hT9 hF
            go_wp2_with fail
            rw [Exit.noGoto_ret]
            go_ret
            exact ⟨ret_int HF.out.symm, HK9.out, HT9.out⟩
          · have HF := Lib.hid (show out = 0 from HO.out.trans (by rw [if_neg (by rw [h1]; decide), if_neg (by rw [h2]; decide)]))
            go_wp2_with fail
            refine hF.mono ?_
            rintro en w9 ⟨rfl, hk9, hT9⟩
            have HK9 := Lib.hid hk9
            have HT9 := Lib.hid hT9
            clear hk9 hT9 hF
            go_wp2_with fail
            rw [Exit.noGoto_ret]
            go_ret
            exact ⟨ret_int HF.out.symm, HK9.out, HT9.out⟩
end
end Go.Proofs.Ytnobggabjpcbfaa

/-
  clos: size, deep.
-/
set_option linter.unusedVariables false
set_option linter.unusedSimpArgs false
namespace Go.Proofs.Ytnobggabjpcbfaa
open Go.RowKit

mutual
/-- binds in all blocks -/
def totA : Anf → Nat
  | .ret _ => 0
  | .bind _ _ _ _ _ bl r => 1 + totL bl + totA r
def totL : List Anf → Nat
  | [] => 0
  | c :: cs => totA c + totL cs
end
mutual
theorem totA_le : ∀ (t : Anf), totA t ≤ szA t
  | .ret _ => Nat.le_refl _
  | .bind _ _ _ _ ks bl r => by
    have h1 := totL_le bl
    have h2 := totA_le r
    show 1 + totL bl + totA r ≤ 1 + ks.length + szL bl + szA r
    omega
theorem totL_le : ∀ (l : List Anf), totL l ≤ szL l
  | [] => Nat.le_refl _
  | c :: cs => by
    have h1 := totA_le c
    have h2 := totL_le cs
    show totA c + totL cs ≤ szA c + szL cs
    omega
end
/-- what stands in blocks alone -/
def subA : Anf → Nat
  | .ret _ => 0
  | .bind _ _ _ _ _ bl r => totL bl + subA r
theorem subA_len : ∀ (t : Anf), t.len + subA t = totA t
  | .ret _ => rfl
  | .bind _ _ _ _ ks bl r => by
    have h2 := subA_len r
    show r.len + 1 + (totL bl + subA r) = 1 + totL bl + totA r
    omega
mutual
theorem sizeA_le (most : Int) : ∀ (t : Anf) (n : Int), n ≤ sizeA most t n ∧ sizeA most t n ≤ n + subA t
  | .ret _, n => by simp [sizeA, subA]
  | .bind _ _ _ _ _ bl r, n => by
    have h1 := sizeL_le most bl n
    have h2 := sizeA_le most r (sizeL most bl n).1
    show n ≤ (if (sizeL most bl n).2 then (sizeL most bl n).1 else sizeA most r (sizeL most bl n).1) ∧ (if (sizeL most bl n).2 then (sizeL most bl n).1 else sizeA most r (sizeL most bl n).1) ≤ n + ((totL bl + subA r : Nat) : Int)
    split <;> omega
theorem sizeL_le (most : Int) : ∀ (l : List Anf) (n : Int), n ≤ (sizeL most l n).1 ∧ (sizeL most l n).1 ≤ n + totL l
  | [], n => by simp [sizeL, totL]
  | c :: cs, n => by
    unfold sizeL
    have h1 := sizeA_le most c c.len
    have h2 := sizeL_le most cs (n + sizeA most c c.len)
    have h3 := subA_len c
    have h4 : totL (c :: cs) = totA c + totL cs := rfl
    split
    · exact ⟨Int.le_refl _, by omega⟩
    · constructor <;> omega
end
theorem sizeB_le (most : Int) (t : Anf) : 0 ≤ sizeB t most ∧ sizeB t most ≤ totA t := by
  have h1 := sizeA_le most t t.len
  have h2 := subA_len t
  unfold sizeB
  omega
theorem sizeL_drop {most n : Int} : ∀ {bl : List Anf} {q : Nat} (hq : q < bl.length), sizeL most (bl.drop q) n = if n > most then (n, true) else sizeL most (bl.drop (q + 1)) (n + sizeB bl[q] most)
  | c :: cs, 0, _ => by
    rw [List.drop_zero]
    conv => lhs; unfold sizeL
    simp [sizeB]
  | c :: cs, q + 1, hq => by
    have := sizeL_drop (most := most) (n := n) (bl := cs) (q := q) (by simpa using hq)
    simpa using this
theorem totL_drop : ∀ {bl : List Anf} {q : Nat} (hq : q < bl.length), totL (bl.drop q) = totA bl[q] + totL (bl.drop (q + 1))
  | c :: cs, 0, _ => by simp [totL]
  | c :: cs, q + 1, hq => by
    have := totL_drop (bl := cs) (q := q) (by simpa using hq)
    simpa using this
mutual
theorem deepA_le : ∀ (t : Anf) (m : Nat) (n : Int), n ≤ deepA t m n ∧ deepA t m n ≤ max n ((m : Int) + 1)
  | .ret _, m, n => by simp [deepA]; omega
  | .bind _ _ _ _ _ bl r, m, n => by
    have h1 := deepL_le bl m n
    have h2 := deepA_le r m (deepL bl m n)
    show n ≤ deepA r m (deepL bl m n) ∧ deepA r m (deepL bl m n) ≤ max n ((m : Int) + 1)
    omega
theorem deepL_le : ∀ (l : List Anf) (m : Nat) (n : Int), n ≤ deepL l m n ∧ deepL l m n ≤ max n ((m : Int) + 1)
  | [], m, n => by simp [deepL]; omega
  | c :: cs, 0, n => by
    have h2 := deepL_le cs 0 n
    show n ≤ deepL cs 0 n ∧ deepL cs 0 n ≤ max n (((0 : Nat) : Int) + 1)
    exact h2
  | c :: cs, m + 1, n => by
    have h1 := deepA_le c m 0
    have h2 := deepL_le cs (m + 1) (max n (deepA c m 0 + 1))
    show n ≤ deepL cs (m + 1) (max n (deepA c m 0 + 1)) ∧ deepL cs (m + 1) (max n (deepA c m 0 + 1)) ≤ max n (((m + 1 : Nat) : Int) + 1)
    omega
end
theorem deepL_drop0 {n : Int} : ∀ {bl : List Anf}, deepL bl 0 n = n
  | [] => rfl
  | c :: cs => by
    show deepL cs 0 n = n
    exact deepL_drop0
theorem deepL_drop {m : Nat} {n : Int} : ∀ {bl : List Anf} {q : Nat} (hq : q < bl.length), deepL (bl.drop q) (m + 1) n = deepL (bl.drop (q + 1)) (m + 1) (max n (deepB bl[q] m))
  | c :: cs, 0, _ => by simp [deepL, deepB]
  | c :: cs, q + 1, hq => by
    have := deepL_drop (m := m) (n := n) (bl := cs) (q := q) (by simpa using hq)
    simpa using this

section
set_option maxRecDepth 100000 in
set_option maxHeartbeats 4000000 in
theorem size_any (t : Anf) : ∀ (W : World) (v : Array Value), BodyIn W.heap.size W t v → totA t ≤ 1000000000 → ∀ most : Int, -1000000000 ≤ most → most ≤ 1000000000 →
    Calls Try.prog 28 #[.agg v, .int .i64 most] W fun e w' => e = .returned (.int .i64 (sizeB t most)) ∧ Below W.heap.size W w' := by
  induction hs : SizeOf.sizeOf t using Nat.strongRecOn generalizing t with
  | _ sz ih =>
    subst hs
    intro W v hin htot most hm1 hm2
    obtain ⟨A, c, b, o, rfl, hc, h96, hA, hB⟩ := hin.at_
    obtain ⟨W0, hW0⟩ : ∃ W0, W.alloc (.cells #[.slice A t.len c, .bool t.last.v, .int .i64 t.last.n] 27) = W0 := ⟨_, rfl⟩
    have hb0 : Below W.heap.size W W0 := by rw [← hW0]; exact (Below.refl _ _).alloc (Nat.le_refl _) _
    have hs0 : W.heap.size < W0.heap.size := by rw [← hW0]; simp
    have e0 : W0.cell? ⟨W.heap.size, 0, none⟩ = some (.slice A t.len c) := by rw [← hW0, World.cell?_alloc_at _ _ _ _ rfl]; rfl
    have HBI := Lib.hid (fun (i : Nat) (hi : i < t.len) (V : World) (hV : Below W0.heap.size W0 V) =>
      (show ∃ x k nn ats ks bl Aa ca Ak ck Al cl, A = some ⟨b, o, none⟩ ∧ b < W.heap.size ∧ Hid (t.tail i = .bind x k nn ats ks bl (t.tail (i + 1))) ∧ (V.cell? ⟨b, o + i * 6, none⟩ = some (.int .i64 x) ∧ V.cell? ⟨b, o + i * 6 + 1, none⟩ = some (.int .i64 k) ∧ V.cell? ⟨b, o + i * 6 + 2, none⟩ = some (.int .i64 nn) ∧ V.cell? ⟨b, o + i * 6 + 3, none⟩ = some (.slice Aa (List.length ats) ca) ∧ V.cell? ⟨b, o + i * 6 + 4, none⟩ = some (.slice Ak (List.length ks) ck) ∧ V.cell? ⟨b, o + i * 6 + 5, none⟩ = some (.slice Al (List.length bl) cl)) ∧ (List.length bl) ≤ cl ∧ (List.length bl) * 40 ≤ 140737488351232 ∧
        Hid (∀ j (h : j < (List.length bl)) (V2 : World) (h2 : Below V.heap.size V V2), ∃ bb oo A0 n0 c0 r0 r1, Al = some ⟨bb, oo, none⟩ ∧ V2.cell? ⟨bb, oo + j * 3, none⟩ = some (.slice A0 n0 c0) ∧ V2.cell? ⟨bb, oo + j * 3 + 1, none⟩ = some (.bool r0) ∧ V2.cell? ⟨bb, oo + j * 3 + 2, none⟩ = some (.int .i64 r1) ∧
          ∀ (V3 : World), Below V2.heap.size V2 V3 → totA bl[j] ≤ 1000000000 → Calls Try.prog 28 #[.agg #[.slice A0 n0 c0, .bool r0, .int .i64 r1], .int .i64 most] V3 fun e w' => e = .returned (.int .i64 (sizeB bl[j] most)) ∧ Below V3.heap.size V3 w') from by
        obtain ⟨x, k, nn, ats, ks, bl, Aa, ca, Ak, ck, Al, cl, he, hbi⟩ := hB i hi
        have hV0 : Below W.heap.size W V := hb0.trans (hV.mono hb0.size)
        refine ⟨x, k, nn, ats, ks, bl, Aa, ca, Ak, ck, Al, cl, hA (by omega), hbi.lt, Lib.hid he, ⟨(hV0.cell (p := ⟨_, _, none⟩) hbi.lt).trans hbi.c0, (hV0.cell (p := ⟨_, _, none⟩) hbi.lt).trans hbi.c1, (hV0.cell (p := ⟨_, _, none⟩) hbi.lt).trans hbi.c2, (hV0.cell (p := ⟨_, _, none⟩) hbi.lt).trans hbi.c3, (hV0.cell (p := ⟨_, _, none⟩) hbi.lt).trans hbi.c4, (hV0.cell (p := ⟨_, _, none⟩) hbi.lt).trans hbi.c5⟩, hbi.hlc, hbi.hl8, Lib.hid (fun j hj V2 h2 => ?_)⟩
        obtain ⟨bb, oo, g0, g1, g2, e1, e2, e3, e4, e5, hbd⟩ := hbi.blk j hj
        have hV2 : Below W.heap.size W V2 := hV0.trans (h2.mono hV0.size)
        have hbd0 := hbd
        obtain ⟨A0, c0, b0, o0, hv, -⟩ := hbd.at_
        simp only [Array.mk.injEq, List.cons.injEq, and_true] at hv
        obtain ⟨rfl, rfl, rfl⟩ := hv
        refine ⟨bb, oo, A0, _, c0, _, _, e1, (hV2.cell (p := ⟨_, _, none⟩) e2).trans e3, (hV2.cell (p := ⟨_, _, none⟩) e2).trans e4, (hV2.cell (p := ⟨_, _, none⟩) e2).trans e5, fun V3 h3 => ?_⟩
        have hV3 : Below W.heap.size W V3 := hV2.trans (h3.mono hV2.size)
        have hlt := size_block he (List.getElem_mem hj)
        exact fun ht => ih _ hlt bl[j] rfl V3 _ ((hbd0.kept hV3).mono hV3.size) ht most hm1 hm2))
    have HB0 := Lib.hid hb0
    have HS0 := Lib.hid hs0
    have HT := Lib.hid (Anf.tail_ret t)
    have HLE := Lib.hid (fun (i : Nat) (n : Int) => sizeA_le most (t.tail i) n)
    have hsub := subA_len t
    clear ih hB hin hb0 hA hs0
    obtain ⟨FIN, hFIN⟩ : ∃ z, sizeB t most = z := ⟨_, rfl⟩
    have HF := Lib.hid (show FIN = sizeA most (t.tail 0) t.len from by rw [Anf.tail_zero]; exact hFIN.symm)
    rw [hFIN]
    clear hFIN
    obtain ⟨tl, htl⟩ : ∃ tl, t.len = tl := ⟨_, rfl⟩
    have HSUB := Lib.hid (show tl + subA (t.tail 0) ≤ 1000000000 from by rw [Anf.tail_zero, ← htl]; omega)
    rw [htl] at e0 HBI HT h96 hc hW0 HF ⊢
    have htl8 : tl ≤ 1000000000 := by have := HSUB.out; omega
    clear h96 htl htot hsub
    generalize t.last.v = lv at *
    generalize t.last.n = ln at *
    go_enter Try.func28, Try.ntmps28
    go_wp2_with fail
    go_loopw [5, 16] (fun n i wr => ∃ (j : Nat) (m : Int), j ≤ tl ∧ i = .int .i64 (j : Int) ∧ n = .int .i64 m ∧ Hid (Below W0.heap.size W0 wr) ∧ 0 ≤ m ∧ Hid (m + (subA (t.tail j) : Int) ≤ 1000000000) ∧ Hid (FIN = sizeA most (t.tail j) m)) (fun _ i _ => tl + 1 - (intOf i).toNat)
    case atStart => exact ⟨0, tl, by omega, rfl, rfl, Lib.hid (Below.refl _ _), by omega, Lib.hid (by have := HSUB.out; omega), HF⟩
    case round =>
      obtain ⟨wo, rfl⟩ : ∃ wo, wo = wr := ⟨_, rfl⟩
      obtain ⟨j, m, hj, rfl, rfl, hbel, hm3, hm4, heq⟩ := hrel
      have q0 := (hbel.out.cell (p := ⟨W.heap.size, 0, none⟩) HS0.out).trans e0
      by_cases hlt : j < tl
      · have hj0 : (0 : Int) ≤ (j : Int) := by omega
        have hjl : (j : Int) < (tl : Int) := by omega
        have hjc : (tl : Int) ≤ (c : Int) := by omega
        obtain ⟨x, k, nn, ats, ks, bl, Aa, ca, Ak, ck, Al, cl, rfl, hbW, htail, ⟨s0, s1, s2, s3, s4, s5⟩, l3, l4, HBL⟩ := HBI.out j hlt wo hbel.out
        have HST := Lib.hid (show FIN = (if (sizeL most (bl.drop 0) m).2 then (sizeL most (bl.drop 0) m).1 else sizeA most (t.tail (j + 1)) (sizeL most (bl.drop 0) m).1) from by rw [List.drop_zero]; exact heq.out.trans (by rw [htail.out]; rfl))
        have HSB := Lib.hid (show m + ((totL (bl.drop 0) + subA (t.tail (j + 1)) : Nat) : Int) ≤ 1000000000 from by rw [List.drop_zero]; have := hm4.out; rw [htail.out] at this; exact this)
        clear heq htail hm4
        obtain ⟨W1, hW1⟩ : ∃ W1, wo.alloc (.cells #[.int .i64 x, .int .i64 k, .int .i64 nn, .slice Aa ats.length ca, .slice Ak ks.length ck, .slice Al bl.length cl] 54) = W1 := ⟨_, rfl⟩
        have hb1 : Below wo.heap.size wo W1 := by rw [← hW1]; exact (Below.refl _ _).alloc (Nat.le_refl _) _
        have hs1 : wo.heap.size < W1.heap.size := by rw [← hW1]; simp
        have r5 : W1.cell? ⟨wo.heap.size, 5, none⟩ = some (.slice Al bl.length cl) := by rw [← hW1, World.cell?_alloc_at _ _ _ _ rfl]; rfl
        have w3 : IntKind.i64.wrap ((j : Int) + 1) = (j : Int) + 1 := by rw [IntKind.wrap_i64]; omega
        go_wp2_with fail
        go_loopw [5, 24] (fun n2 kk wr2 => ∃ (q : Nat) (m2 : Int), q ≤ bl.length ∧ kk = .int .i64 (q : Int) ∧ n2 = .int .i64 m2 ∧ Hid (Below W1.heap.size W1 wr2) ∧ 0 ≤ m2 ∧ Hid (m2 + ((totL (bl.drop q) + subA (t.tail (j + 1)) : Nat) : Int) ≤ 1000000000) ∧ Hid (FIN = (if (sizeL most (bl.drop q) m2).2 then (sizeL most (bl.drop q) m2).1 else sizeA most (t.tail (j + 1)) (sizeL most (bl.drop q) m2).1))) (fun _ kk _ => bl.length + 1 - (intOf kk).toNat)
        case atStart => exact ⟨0, m, by omega, rfl, rfl, Lib.hid (Below.refl _ _), hm3, HSB, HST⟩
        case round =>
          obtain ⟨wq, rfl⟩ : ∃ wq, wq = wr := ⟨_, rfl⟩
          obtain ⟨q, m2, hq, rfl, rfl, hbel2, hn1, hn2, heq2⟩ := hrel
          have hbo : Below wo.heap.size wo wq := hb1.trans (hbel2.out.mono hb1.size)
          have HBO := Lib.hid hbo
          clear hbo
          have q0' := (HBO.out.cell (p := ⟨W.heap.size, 0, none⟩) (Nat.lt_of_lt_of_le HS0.out hbel.out.size)).trans q0
          by_cases hlq : q < bl.length
          · have hq0 : (0 : Int) ≤ (q : Int) := by omega
            have hql : (q : Int) < (bl.length : Int) := by omega
            have hqc : (bl.length : Int) ≤ (cl : Int) := by omega
            have w4 : IntKind.i64.wrap ((q : Int) + 1) = (q : Int) + 1 := by rw [IntKind.wrap_i64]; omega
            obtain ⟨bb, oo, A0, n0, c0', v0, v1, rfl, y0, y1, y2, hC⟩ := HBL.out q hlq wq HBO.out
            obtain ⟨W4, hW4⟩ : ∃ W4, wq.alloc (.cells #[.slice A0 n0 c0', .bool v0, .int .i64 v1] 27) = W4 := ⟨_, rfl⟩
            have hb4 : Below wq.heap.size wq W4 := by rw [← hW4]; exact (Below.refl _ _).alloc (Nat.le_refl _) _
            have p0 : W4.cell? ⟨wq.heap.size, 0, none⟩ = some (.slice A0 n0 c0') := by rw [← hW4, World.cell?_alloc_at _ _ _ _ rfl]; rfl
            have p1 : W4.cell? ⟨wq.heap.size, 1, none⟩ = some (.bool v0) := by rw [← hW4, World.cell?_alloc_at _ _ _ _ rfl]; rfl
            have p2 : W4.cell? ⟨wq.heap.size, 2, none⟩ = some (.int .i64 v1) := by rw [← hW4, World.cell?_alloc_at _ _ _ _ rfl]; rfl
            have HB4 := Lib.hid hb4
            have HD := Lib.hid (totL_drop hlq)
            have HSD := Lib.hid (sizeL_drop (most := most) (n := m2) hlq)
            by_cases hmq : m2 > most
            · have HE := Lib.hid (show FIN = m2 from heq2.out.trans (by rw [HSD.out, if_pos hmq]; rfl))
              have hmq' : most < m2 := hmq
              clear hC hb4
              go_wp2_with fail
              go_ret
              exact ⟨ret_int HE.out.symm, HB0.out.trans ((hbel.out.trans ((HBO.out.trans (HB4.out.mono HBO.out.size)).mono hbel.out.size)).mono (Nat.le_of_lt HS0.out))⟩
            · have hmq' : ¬ most < m2 := hmq
              have HC := Lib.hid (hC W4 hb4 (by have h1 := hn2.out; have h2 := HD.out; omega))
              have HN := Lib.hid (show FIN = (if (sizeL most (bl.drop (q + 1)) (m2 + sizeB bl[q] most)).2 then (sizeL most (bl.drop (q + 1)) (m2 + sizeB bl[q] most)).1 else sizeA most (t.tail (j + 1)) (sizeL most (bl.drop (q + 1)) (m2 + sizeB bl[q] most)).1) from heq2.out.trans (by rw [HSD.out, if_neg hmq]))
              have hsz := sizeB_le most bl[q]
              have hnn : m2 + sizeB bl[q] most + ((totL (bl.drop (q + 1)) + subA (t.tail (j + 1)) : Nat) : Int) ≤ 1000000000 := by have h1 := hn2.out; have h2 := HD.out; omega
              have HNN := Lib.hid hnn
              have w5 : IntKind.i64.wrap (m2 + sizeB bl[q] most) = m2 + sizeB bl[q] most := by rw [IntKind.wrap_i64]; omega
              have hpos : 0 ≤ m2 + sizeB bl[q] most := by omega
              clear hC hb4 heq2 hsz hnn
              generalize sizeB bl[q] most = sz at *
              go_wp2_with fail
              refine HC.out.mono ?_
              rintro e w5 ⟨rfl, hb5⟩
              have HB5 := Lib.hid (show Below W1.heap.size W1 w5 from hbel2.out.trans ((HB4.out.trans (hb5.mono HB4.out.size)).mono hbel2.out.size))
              clear hb5
              go_wp2_with fail
              go_roundw
              case rel => exact ⟨q + 1, m2 + sz, by omega, by go_num, by first | rfl | go_num, HB5, hpos, HNN, HN⟩
              case measure => simp [intOf]; omega
          · have hql : ¬ (q : Int) < (bl.length : Int) := by omega
            have hdr : bl.drop q = [] := List.drop_eq_nil_iff.2 (by omega)
            have HE := Lib.hid (show FIN = sizeA most (t.tail (j + 1)) m2 from heq2.out.trans (by rw [hdr]; rfl))
            have HNN := Lib.hid (show m2 + (subA (t.tail (j + 1)) : Int) ≤ 1000000000 from by have := hn2.out; rw [hdr] at this; simp [totL] at this; omega)
            clear heq2 hdr
            go_wp2_with fail
            go_roundw
            case rel => exact ⟨j + 1, m2, by omega, by go_num, rfl, Lib.hid (hbel.out.trans (HBO.out.mono hbel.out.size)), hn1, HNN, HE⟩
            case measure => simp [intOf]; omega
      · have hjl : ¬ (j : Int) < (tl : Int) := by omega
        have HE := Lib.hid (show FIN = m from heq.out.trans (by rw [HT.out j (by omega)]; rfl))
        clear heq
        go_wp2_with fail
        go_ret
        exact ⟨ret_int HE.out.symm, HB0.out.trans (hbel.out.mono (Nat.le_of_lt HS0.out))⟩

set_option maxRecDepth 100000 in
set_option maxHeartbeats 4000000 in
theorem deep_any (t : Anf) : ∀ (W : World) (v : Array Value), BodyIn W.heap.size W t v → ∀ most : Nat, most ≤ 1000000 →
    Calls Try.prog 29 #[.agg v, .int .i64 (most : Int)] W fun e w' => e = .returned (.int .i64 (deepB t most)) ∧ Below W.heap.size W w' := by
  induction hs : SizeOf.sizeOf t using Nat.strongRecOn generalizing t with
  | _ sz ih =>
    subst hs
    intro W v hin most hm
    obtain ⟨A, c, b, o, rfl, hc, h96, hA, hB⟩ := hin.at_
    obtain ⟨W0, hW0⟩ : ∃ W0, W.alloc (.cells #[.slice A t.len c, .bool t.last.v, .int .i64 t.last.n] 27) = W0 := ⟨_, rfl⟩
    have hb0 : Below W.heap.size W W0 := by rw [← hW0]; exact (Below.refl _ _).alloc (Nat.le_refl _) _
    have hs0 : W.heap.size < W0.heap.size := by rw [← hW0]; simp
    have e0 : W0.cell? ⟨W.heap.size, 0, none⟩ = some (.slice A t.len c) := by rw [← hW0, World.cell?_alloc_at _ _ _ _ rfl]; rfl
    have HBI := Lib.hid (fun (i : Nat) (hi : i < t.len) (V : World) (hV : Below W0.heap.size W0 V) =>
      (show ∃ x k nn ats ks bl Aa ca Ak ck Al cl, A = some ⟨b, o, none⟩ ∧ b < W.heap.size ∧ Hid (t.tail i = .bind x k nn ats ks bl (t.tail (i + 1))) ∧ (V.cell? ⟨b, o + i * 6, none⟩ = some (.int .i64 x) ∧ V.cell? ⟨b, o + i * 6 + 1, none⟩ = some (.int .i64 k) ∧ V.cell? ⟨b, o + i * 6 + 2, none⟩ = some (.int .i64 nn) ∧ V.cell? ⟨b, o + i * 6 + 3, none⟩ = some (.slice Aa (List.length ats) ca) ∧ V.cell? ⟨b, o + i * 6 + 4, none⟩ = some (.slice Ak (List.length ks) ck) ∧ V.cell? ⟨b, o + i * 6 + 5, none⟩ = some (.slice Al (List.length bl) cl)) ∧ (List.length bl) ≤ cl ∧ (List.length bl) * 40 ≤ 140737488351232 ∧
        Hid (∀ j (h : j < (List.length bl)) (V2 : World) (h2 : Below V.heap.size V V2), ∃ bb oo A0 n0 c0 r0 r1, Al = some ⟨bb, oo, none⟩ ∧ V2.cell? ⟨bb, oo + j * 3, none⟩ = some (.slice A0 n0 c0) ∧ V2.cell? ⟨bb, oo + j * 3 + 1, none⟩ = some (.bool r0) ∧ V2.cell? ⟨bb, oo + j * 3 + 2, none⟩ = some (.int .i64 r1) ∧
          ∀ (V3 : World), Below V2.heap.size V2 V3 → ∀ m : Nat, m ≤ 1000000 → Calls Try.prog 29 #[.agg #[.slice A0 n0 c0, .bool r0, .int .i64 r1], .int .i64 (m : Int)] V3 fun e w' => e = .returned (.int .i64 (deepB bl[j] m)) ∧ Below V3.heap.size V3 w') from by
        obtain ⟨x, k, nn, ats, ks, bl, Aa, ca, Ak, ck, Al, cl, he, hbi⟩ := hB i hi
        have hV0 : Below W.heap.size W V := hb0.trans (hV.mono hb0.size)
        refine ⟨x, k, nn, ats, ks, bl, Aa, ca, Ak, ck, Al, cl, hA (by omega), hbi.lt, Lib.hid he, ⟨(hV0.cell (p := ⟨_, _, none⟩) hbi.lt).trans hbi.c0, (hV0.cell (p := ⟨_, _, none⟩) hbi.lt).trans hbi.c1, (hV0.cell (p := ⟨_, _, none⟩) hbi.lt).trans hbi.c2, (hV0.cell (p := ⟨_, _, none⟩) hbi.lt).trans hbi.c3, (hV0.cell (p := ⟨_, _, none⟩) hbi.lt).trans hbi.c4, (hV0.cell (p := ⟨_, _, none⟩) hbi.lt).trans hbi.c5⟩, hbi.hlc, hbi.hl8, Lib.hid (fun j hj V2 h2 => ?_)⟩
        obtain ⟨bb, oo, g0, g1, g2, e1, e2, e3, e4, e5, hbd⟩ := hbi.blk j hj
        have hV2 : Below W.heap.size W V2 := hV0.trans (h2.mono hV0.size)
        have hbd0 := hbd
        obtain ⟨A0, c0, b0, o0, hv, -⟩ := hbd.at_
        simp only [Array.mk.injEq, List.cons.injEq, and_true] at hv
        obtain ⟨rfl, rfl, rfl⟩ := hv
        refine ⟨bb, oo, A0, _, c0, _, _, e1, (hV2.cell (p := ⟨_, _, none⟩) e2).trans e3, (hV2.cell (p := ⟨_, _, none⟩) e2).trans e4, (hV2.cell (p := ⟨_, _, none⟩) e2).trans e5, fun V3 h3 => ?_⟩
        have hV3 : Below W.heap.size W V3 := hV2.trans (h3.mono hV2.size)
        have hlt := size_block he (List.getElem_mem hj)
        exact fun m hm => ih _ hlt bl[j] rfl V3 _ ((hbd0.kept hV3).mono hV3.size) m hm))
    have HB0 := Lib.hid hb0
    have HS0 := Lib.hid hs0
    have HT := Lib.hid (Anf.tail_ret t)
    have HLE := Lib.hid (fun (i : Nat) (n : Int) => deepA_le (t.tail i) most n)
    clear ih hB hin hb0 hA hs0
    obtain ⟨FIN, hFIN⟩ : ∃ z, deepB t most = z := ⟨_, rfl⟩
    have HF := Lib.hid (show FIN = deepA (t.tail 0) most 0 + 1 from by rw [Anf.tail_zero]; exact hFIN.symm)
    rw [hFIN]
    clear hFIN
    have htl8 : t.len ≤ 2000000000000 := by omega
    obtain ⟨tl, htl⟩ : ∃ tl, t.len = tl := ⟨_, rfl⟩
    rw [htl] at e0 HBI HT h96 hc hW0 htl8 ⊢
    clear h96 htl
    generalize t.last.v = lv at *
    generalize t.last.n = ln at *
    go_enter Try.func29, Try.ntmps29
    go_wp2_with fail
    go_loopw [5, 13] (fun n i wr => ∃ (j : Nat) (m : Int), j ≤ tl ∧ i = .int .i64 (j : Int) ∧ n = .int .i64 m ∧ Hid (Below W0.heap.size W0 wr) ∧ 0 ≤ m ∧ m ≤ 1000001 ∧ Hid (FIN = deepA (t.tail j) most m + 1)) (fun _ i _ => tl + 1 - (intOf i).toNat)
    case atStart => exact ⟨0, 0, by omega, rfl, rfl, Lib.hid (Below.refl _ _), by omega, by omega, HF⟩
    case round =>
      obtain ⟨wo, rfl⟩ : ∃ wo, wo = wr := ⟨_, rfl⟩
      obtain ⟨j, m, hj, rfl, rfl, hbel, hm3, hm4, heq⟩ := hrel
      have q0 := (hbel.out.cell (p := ⟨W.heap.size, 0, none⟩) HS0.out).trans e0
      by_cases hlt : j < tl
      · have hj0 : (0 : Int) ≤ (j : Int) := by omega
        have hjl : (j : Int) < (tl : Int) := by omega
        have hjc : (tl : Int) ≤ (c : Int) := by omega
        obtain ⟨x, k, nn, ats, ks, bl, Aa, ca, Ak, ck, Al, cl, rfl, hbW, htail, ⟨s0, s1, s2, s3, s4, s5⟩, l3, l4, HBL⟩ := HBI.out j hlt wo hbel.out
        have HST := Lib.hid (show FIN = deepA (t.tail (j + 1)) most (deepL (bl.drop 0) most m) + 1 from by rw [List.drop_zero]; exact heq.out.trans (by rw [htail.out]; rfl))
        clear heq htail
        obtain ⟨W1, hW1⟩ : ∃ W1, wo.alloc (.cells #[.int .i64 x, .int .i64 k, .int .i64 nn, .slice Aa ats.length ca, .slice Ak ks.length ck, .slice Al bl.length cl] 54) = W1 := ⟨_, rfl⟩
        have hb1 : Below wo.heap.size wo W1 := by rw [← hW1]; exact (Below.refl _ _).alloc (Nat.le_refl _) _
        have hs1 : wo.heap.size < W1.heap.size := by rw [← hW1]; simp
        have r5 : W1.cell? ⟨wo.heap.size, 5, none⟩ = some (.slice Al bl.length cl) := by rw [← hW1, World.cell?_alloc_at _ _ _ _ rfl]; rfl
        have w3 : IntKind.i64.wrap ((j : Int) + 1) = (j : Int) + 1 := by rw [IntKind.wrap_i64]; omega
        go_wp2_with fail
        go_loopw [5, 21] (fun n2 kk wr2 => ∃ (q : Nat) (m2 : Int), q ≤ bl.length ∧ kk = .int .i64 (q : Int) ∧ n2 = .int .i64 m2 ∧ Hid (Below W1.heap.size W1 wr2) ∧ 0 ≤ m2 ∧ m2 ≤ 1000001 ∧ Hid (FIN = deepA (t.tail (j + 1)) most (deepL (bl.drop q) most m2) + 1)) (fun _ kk _ => bl.length + 1 - (intOf kk).toNat)
        case atStart => exact ⟨0, m, by omega, rfl, rfl, Lib.hid (Below.refl _ _), hm3, hm4, HST⟩
        case round =>
          obtain ⟨wq, rfl⟩ : ∃ wq, wq = wr := ⟨_, rfl⟩
          obtain ⟨q, m2, hq, rfl, rfl, hbel2, hn1, hn2, heq2⟩ := hrel
          have hbo : Below wo.heap.size wo wq := hb1.trans (hbel2.out.mono hb1.size)
          have HBO := Lib.hid hbo
          clear hbo
          have q0' := (HBO.out.cell (p := ⟨W.heap.size, 0, none⟩) (Nat.lt_of_lt_of_le HS0.out hbel.out.size)).trans q0
          by_cases hlq : q < bl.length
          · have hq0 : (0 : Int) ≤ (q : Int) := by omega
            have hql : (q : Int) < (bl.length : Int) := by omega
            have hqc : (bl.length : Int) ≤ (cl : Int) := by omega
            have w4 : IntKind.i64.wrap ((q : Int) + 1) = (q : Int) + 1 := by rw [IntKind.wrap_i64]; omega
            obtain ⟨bb, oo, A0, n0, c0', v0, v1, rfl, y0, y1, y2, hC⟩ := HBL.out q hlq wq HBO.out
            obtain ⟨W4, hW4⟩ : ∃ W4, wq.alloc (.cells #[.slice A0 n0 c0', .bool v0, .int .i64 v1] 27) = W4 := ⟨_, rfl⟩
            have hb4 : Below wq.heap.size wq W4 := by rw [← hW4]; exact (Below.refl _ _).alloc (Nat.le_refl _) _
            have p0 : W4.cell? ⟨wq.heap.size, 0, none⟩ = some (.slice A0 n0 c0') := by rw [← hW4, World.cell?_alloc_at _ _ _ _ rfl]; rfl
            have p1 : W4.cell? ⟨wq.heap.size, 1, none⟩ = some (.bool v0) := by rw [← hW4, World.cell?_alloc_at _ _ _ _ rfl]; rfl
            have p2 : W4.cell? ⟨wq.heap.size, 2, none⟩ = some (.int .i64 v1) := by rw [← hW4, World.cell?_alloc_at _ _ _ _ rfl]; rfl
            have HB4 := Lib.hid hb4
            have HB14 := Lib.hid (show Below W1.heap.size W1 W4 from hbel2.out.trans (hb4.mono hbel2.out.size))
            by_cases hmq : most = 0
            · have hmq' : ¬ (0 : Int) < (most : Int) := by omega
              have HE := Lib.hid (show FIN = deepA (t.tail (j + 1)) most (deepL (bl.drop (q + 1)) most m2) + 1 from heq2.out.trans (by rw [hmq, deepL_drop0, deepL_drop0]))
              have HMQ := Lib.hid hmq
              clear hC hb4 hmq
              go_wp2_with fail
              go_roundw
              case rel => exact ⟨q + 1, m2, by omega, by go_num, rfl, HB14, hn1, hn2, HE⟩
              case measure => simp [intOf]; omega
            · have hmq' : (0 : Int) < (most : Int) := by omega
              obtain ⟨mp, hmp⟩ : ∃ mp, most = mp + 1 := ⟨most - 1, by omega⟩
              have HC := Lib.hid (hC W4 hb4 mp (by omega))
              have HN := Lib.hid (show FIN = deepA (t.tail (j + 1)) most (deepL (bl.drop (q + 1)) most (max m2 (deepB bl[q] mp))) + 1 from heq2.out.trans (by rw [hmp, deepL_drop hlq]))
              have hsz := deepA_le bl[q] mp 0
              have hmx1 : 0 ≤ max m2 (deepB bl[q] mp) ∧ max m2 (deepB bl[q] mp) ≤ 1000001 ∨ 1000001 < deepB bl[q] mp := by unfold deepB; omega
              have hdb : deepB bl[q] mp ≤ 1000001 := by unfold deepB; omega
              have w5 : IntKind.i64.wrap ((most : Int) - 1) = (mp : Int) := by rw [IntKind.wrap_i64]; omega
              have HMP := Lib.hid hmp
              clear hC hb4 heq2 hsz hmp hmq
              generalize deepB bl[q] mp = sz at *
              go_wp2_with fail
              refine HC.out.mono ?_
              rintro e w5 ⟨rfl, hb5⟩
              have HB5 := Lib.hid (show Below W1.heap.size W1 w5 from HB14.out.trans (hb5.mono HB14.out.size))
              clear hb5
              go_wp2_with fail
              go_roundw
              case rel => exact ⟨q + 1, max m2 sz, by omega, by go_num, by first | rfl | (simp; omega) | (congr 1; omega), HB5, by omega, by omega, HN⟩
              case measure => simp [intOf]; omega
          · have hql : ¬ (q : Int) < (bl.length : Int) := by omega
            have hdr : bl.drop q = [] := List.drop_eq_nil_iff.2 (by omega)
            have HE := Lib.hid (show FIN = deepA (t.tail (j + 1)) most m2 + 1 from heq2.out.trans (by rw [hdr]; rfl))
            clear heq2 hdr
            go_wp2_with fail
            go_roundw
            case rel => exact ⟨j + 1, m2, by omega, by go_num, rfl, Lib.hid (hbel.out.trans (HBO.out.mono hbel.out.size)), hn1, hn2, HE⟩
            case measure => simp [intOf]; omega
      · have hjl : ¬ (j : Int) < (tl : Int) := by omega
        have HE := Lib.hid (show FIN = m + 1 from heq.out.trans (by rw [HT.out j (by omega)]; rfl))
        have w5 : IntKind.i64.wrap (m + 1) = m + 1 := by rw [IntKind.wrap_i64]; omega
        clear heq
        go_wp2_with fail
        go_ret
        exact ⟨ret_int HE.out.symm, HB0.out.trans (hbel.out.mono (Nat.le_of_lt HS0.out))⟩
end
end Go.Proofs.Ytnobggabjpcbfaa

/-
  clos: bodies.
-/
set_option linter.unusedVariables false
set_option linter.unusedSimpArgs false
namespace Go.Proofs.Ytnobggabjpcbfaa
open Go.RowKit

theorem infoAnf : (Try.prog.info? 27).map (fun i => (i.zero, i.size, i.bytes)) = some (some (.agg #[.slice none 0 0, .bool false, .int .i64 0]), 3, 40) := by kernel_rfl
theorem undAnf : Try.prog.underlying 50 = some (.slice 27) := by kernel_rfl
theorem news3 (w : World) (g0 g1 g2 : Value) (T : TypeId) : ∀ q u, [g0, g1, g2][q]? = some u → (w.alloc (.cells #[g0, g1, g2] T)).cell? ((⟨w.heap.size, 0, none⟩ : Addr).add q) = some u := fun q u h => by
  rw [addr_add]
  have hn := World.alloc_heap_new w (.cells #[g0, g1, g2] T)
  generalize w.alloc (.cells #[g0, g1, g2] T) = V at hn ⊢
  match q, h with
  | 0, h => simp at h; subst h; simp [World.cell?, hn]
  | 1, h => simp at h; subst h; simp [World.cell?, hn]
  | 2, h => simp at h; subst h; simp [World.cell?, hn]
  | q + 3, h => simp at h
/-- bodies that stand in a row so far -/
structure BodiesRow (W W0 wr : World) (L : List Anf) (j : Nat) (rv : Value) (Fs : List Value) : Prop where
  below : Below W0.heap.size W0 wr
  row : wr.ownsRow W0.heap.size 27 3 rv j Fs
  len : Fs.length = 3 * j
  rep : ∀ i (h : i < j) (hL : i < L.length), ∃ g0 g1 g2, Fs[3 * i]? = some g0 ∧ Fs[3 * i + 1]? = some g1 ∧ Fs[3 * i + 2]? = some g2 ∧ BodyIn W.heap.size W L[i] #[g0, g1, g2]
theorem BodiesRow.more {W W0 wr : World} {L : List Anf} {j : Nat} {rv : Value} {Fs : List Value} (h : BodiesRow W W0 wr L j rv Fs) {g0 g1 g2 : Value} (hj : j < L.length) (hb : BodyIn W.heap.size W L[j] #[g0, g1, g2]) {V w1 : World} (hV : Below wr.heap.size wr V) {rv' : Value}
    (hown : w1.ownsRow W0.heap.size 27 3 rv' (j + 1) (Fs ++ [g0, g1, g2])) (hgrow : V.grownBy w1 rv.ownBlock) : BodiesRow W W0 w1 L (j + 1) rv' (Fs ++ [g0, g1, g2]) := by
  have hb1 : Below W0.heap.size W0 V := h.below.trans (hV.mono h.below.size)
  refine ⟨hb1.grown hgrow hb1.size (fun q hq => (h.row.lt q hq).1), hown, by simp [h.len]; omega, fun i hi hL => ?_⟩
  have hl := h.len
  by_cases hij : i < j
  · obtain ⟨a, b, c, e0, e1, e2, e3⟩ := h.rep i hij hL
    exact ⟨a, b, c, by rw [List.getElem?_append_left (by omega)]; exact e0, by rw [List.getElem?_append_left (by omega)]; exact e1, by rw [List.getElem?_append_left (by omega)]; exact e2, e3⟩
  · have : i = j := by omega
    subst this
    exact ⟨g0, g1, g2, by rw [List.getElem?_append_right (by omega)]; simp [hl], by rw [List.getElem?_append_right (by omega)]; simp [hl], by rw [List.getElem?_append_right (by omega)]; simp [hl], hb⟩
/-- bodies in a row -/
def RowOf (B : Nat) (w : World) (L : List Anf) (A : Option Addr) : Prop :=
  ∀ j (h : j < L.length), ∃ bb oo A0 n0 c0 r0 r1, A = some ⟨bb, oo, none⟩ ∧ bb < w.heap.size ∧ w.cell? ⟨bb, oo + j * 3, none⟩ = some (.slice A0 n0 c0) ∧ w.cell? ⟨bb, oo + j * 3 + 1, none⟩ = some (.bool r0) ∧ w.cell? ⟨bb, oo + j * 3 + 2, none⟩ = some (.int .i64 r1) ∧ BodyIn B w L[j] #[.slice A0 n0 c0, .bool r0, .int .i64 r1]
theorem RowOf.below {B : Nat} {w w' : World} {L : List Anf} {A : Option Addr} (h : RowOf B w L A) (hB : B ≤ w.heap.size) (hb : Below w.heap.size w w') : RowOf B w' L A := fun j hj => by
  obtain ⟨bb, oo, A0, n0, c0, r0, r1, e1, e2, e3, e4, e5, e6⟩ := h j hj
  exact ⟨bb, oo, A0, n0, c0, r0, r1, e1, Nat.lt_of_lt_of_le e2 hb.size, (hb.cell (p := ⟨_, _, none⟩) e2).trans e3, (hb.cell (p := ⟨_, _, none⟩) e2).trans e4, (hb.cell (p := ⟨_, _, none⟩) e2).trans e5, e6.kept (hb.mono hB)⟩
theorem BodiesRow.whole {W W0 wr : World} {L : List Anf} {rv : Value} {Fs : List Value} (h : BodiesRow W W0 wr L L.length rv Fs) (h0 : Below W.heap.size W W0) (hL : 0 < L.length) : ∃ A c, rv = .slice A L.length c ∧ L.length ≤ c ∧ RowOf W.heap.size wr L A := by
  have hbW : Below W.heap.size W wr := h0.trans (h.below.mono h0.size)
  rcases h.row.2 with ⟨_, h0⟩ | ⟨g, cap, cur, rfl, hlo, hgg, hn, _, _, _⟩
  · omega
  · refine ⟨some ⟨g, 0, none⟩, cap, rfl, hn, fun j hj => ?_⟩
    obtain ⟨g0, g1, g2, e0, e1, e2, e3⟩ := h.rep j hj hj
    have k0 := World.ownsRow.cells h.row (g := g) rfl (3 * j) g0 e0
    have k1 := World.ownsRow.cells h.row (g := g) rfl (3 * j + 1) g1 e1
    have k2 := World.ownsRow.cells h.row (g := g) rfl (3 * j + 2) g2 e2
    rw [addr_add] at k0 k1 k2
    have e3' := e3.kept hbW
    obtain ⟨A0, c0, b0, o0, hv, -⟩ := e3.at_
    simp only [Array.mk.injEq, List.cons.injEq, and_true] at hv
    obtain ⟨rfl, rfl, rfl⟩ := hv
    exact ⟨g, 0, A0, _, c0, _, _, rfl, (h.row.lt g rfl).2, by rw [← k0, Nat.mul_comm], by rw [← k1, Nat.mul_comm]; rfl, by rw [← k2, Nat.mul_comm]; rfl, e3'⟩

/-- all bodies of a program -/
def allB (p : FlatP) : List Anf := p.funs.map (·.body) ++ [p.main]
set_option maxRecDepth 100000 in
set_option maxHeartbeats 2000000 in
theorem bodies_any {p : FlatP} {v : Array Value} (W : World) (hin : FlatIn W.heap.size W p v) :
    Calls Try.prog 27 #[.agg v] W fun e w' => ∃ A c, e = .returned (.slice A (p.funs.length + 1) c) ∧ p.funs.length + 1 ≤ c ∧ RowOf W.heap.size w' (allB p) A ∧ Below W.heap.size W w' := by
  obtain ⟨Af, cf, b, o, m0, m1, m2, rfl, hcf, h56, hmain, hA, hfun⟩ := hin
  have hmain0 := hmain
  obtain ⟨A1, c1, b1, o1, hv, -⟩ := hmain.at_
  simp only [Array.mk.injEq, List.cons.injEq, and_true] at hv
  obtain ⟨rfl, rfl, rfl⟩ := hv
  obtain ⟨W0, hW0⟩ : ∃ W0, W.alloc (.cells #[.slice Af p.funs.length cf, .slice A1 p.main.len c1, .bool p.main.last.v, .int .i64 p.main.last.n] 29) = W0 := ⟨_, rfl⟩
  have hb0 : Below W.heap.size W W0 := by rw [← hW0]; exact (Below.refl _ _).alloc (Nat.le_refl _) _
  have hs0 : W.heap.size < W0.heap.size := by rw [← hW0]; simp
  have hn0 : W0.heap[W.heap.size]? = some (.cells #[.slice Af p.funs.length cf, .slice A1 p.main.len c1, .bool p.main.last.v, .int .i64 p.main.last.n] 29 (0, 0)) := by rw [← hW0]; exact World.alloc_heap_new W _
  have HC := Lib.hid (fun (V : World) (hV : Below W0.heap.size W0 V) => (show V.cell? ⟨W.heap.size, 0, none⟩ = some (.slice Af p.funs.length cf) ∧ V.cell? ⟨W.heap.size, 1, none⟩ = some (.slice A1 p.main.len c1) ∧ V.cell? ⟨W.heap.size, 2, none⟩ = some (.bool p.main.last.v) ∧ V.cell? ⟨W.heap.size, 3, none⟩ = some (.int .i64 p.main.last.n) from
    ⟨(hV.cell (p := ⟨W.heap.size, 0, none⟩) hs0).trans (by simp [World.cell?, hn0]), (hV.cell (p := ⟨W.heap.size, 1, none⟩) hs0).trans (by simp [World.cell?, hn0]), (hV.cell (p := ⟨W.heap.size, 2, none⟩) hs0).trans (by simp [World.cell?, hn0]), (hV.cell (p := ⟨W.heap.size, 3, none⟩) hs0).trans (by simp [World.cell?, hn0])⟩))
  have HF := Lib.hid (fun (j : Nat) (hj : j < p.funs.length) (V : World) (hV : Below W0.heap.size W0 V) => (show ∃ x y A0 n0 c0 r0 r1, Af = some ⟨b, o, none⟩ ∧ V.cell? ⟨b, o + j * 5, none⟩ = some (.int .i64 x) ∧ V.cell? ⟨b, o + j * 5 + 1, none⟩ = some (.int .i64 y) ∧ V.cell? ⟨b, o + j * 5 + 2, none⟩ = some (.slice A0 n0 c0) ∧ V.cell? ⟨b, o + j * 5 + 3, none⟩ = some (.bool r0) ∧ V.cell? ⟨b, o + j * 5 + 4, none⟩ = some (.int .i64 r1) ∧ BodyIn W.heap.size W p.funs[j].body #[.slice A0 n0 c0, .bool r0, .int .i64 r1] from by
    obtain ⟨g0, g1, g2, e0, e1, e2, e3, e4, e5⟩ := hfun j hj
    have hbW : Below W.heap.size W V := hb0.trans (hV.mono hb0.size)
    have hlt := (hA (by omega)).2
    have e5' := e5
    obtain ⟨A0, c0, b0, o0, hv, -⟩ := e5.at_
    simp only [Array.mk.injEq, List.cons.injEq, and_true] at hv
    obtain ⟨rfl, rfl, rfl⟩ := hv
    exact ⟨_, _, A0, _, c0, _, _, (hA (by omega)).1, (hbW.cell (p := ⟨_, _, none⟩) hlt).trans e0, (hbW.cell (p := ⟨_, _, none⟩) hlt).trans e1, (hbW.cell (p := ⟨_, _, none⟩) hlt).trans e2, (hbW.cell (p := ⟨_, _, none⟩) hlt).trans e3, (hbW.cell (p := ⟨_, _, none⟩) hlt).trans e4, e5'⟩))
  have HM := Lib.hid hmain0
  have HB0 := Lib.hid hb0
  have HLA := Lib.hid (show (allB p).length = p.funs.length + 1 from by simp [allB])
  have HLJ := Lib.hid (fun (j : Nat) (hj : j < p.funs.length) (hj2 : j < (allB p).length) => (show (allB p)[j] = p.funs[j].body from by simp [allB, hj]))
  have HLM := Lib.hid (fun (hj2 : p.funs.length < (allB p).length) => (show (allB p)[p.funs.length] = p.main from by simp [allB]))
  obtain ⟨i0, hinf, hz0, hz1, hz2⟩ := info_parts infoAnf
  obtain ⟨k0, k1, k2, k3⟩ := HC.out W0 (Below.refl _ _)
  clear hmain hmain0 hA hfun hb0 hs0 hn0
  obtain ⟨NF, hNF⟩ : ∃ n, p.funs.length = n := ⟨_, rfl⟩
  have HNF := Lib.hid hNF
  have HF' := Lib.hid (fun (j : Nat) (hj : j < NF) => HF.out j (by rw [HNF.out]; exact hj))
  have HLJ' := Lib.hid (fun (j : Nat) (hj : j < NF) (hj2 : j < (allB p).length) => (show (allB p)[j] = (p.funs[j]'(by rw [HNF.out]; exact hj)).body from HLJ.out j (by rw [HNF.out]; exact hj) hj2))
  have HLM' := Lib.hid (fun (hj2 : NF < (allB p).length) => (show (allB p)[NF] = p.main from by subst hNF; exact HLM.out hj2))
  clear HF HLJ HLM
  rw [hNF] at hcf h56 HC HLA hW0 k0 ⊢
  clear hNF
  go_enter Try.func27, Try.ntmps27
  go_wp2_with fail
  go_loopw [3, 9] (fun rv iv wr => ∃ (j : Nat) (Fs : List Value), j ≤ NF ∧ iv = .int .i64 (j : Int) ∧ Hid (BodiesRow W W0 wr (allB p) j rv Fs)) (fun _ iv _ => NF + 1 - (intOf iv).toNat)
  case atStart => exact ⟨0, [], by omega, rfl, Lib.hid ⟨Below.refl _ _, ⟨by simp, .inl ⟨rfl, rfl⟩⟩, rfl, by intro i h; omega⟩⟩
  case round =>
    obtain ⟨j, Fs, hj, rfl, HR⟩ := hrel
    obtain ⟨q0, q1, q2, q3⟩ := HC.out wr HR.out.below
    have hsz := HR.out.below.size
    by_cases hlt : j < NF
    · obtain ⟨x, y, A0, n0, c0, r0, r1, rfl, s0, s1, s2, s3, s4, hbd⟩ := HF'.out j hlt wr HR.out.below
      have e1 : (0 : Int) ≤ (j : Int) := by omega
      have e2 : (j : Int) < (NF : Int) := by omega
      have e4 : IntKind.i64.wrap ((j : Int) + 1) = (j : Int) + 1 := by rw [IntKind.wrap_i64]; omega
      have e5 : (NF : Int) ≤ (cf : Int) := by omega
      have HBD := Lib.hid hbd
      have hml : j + 1 ≤ maxLen := by unfold maxLen; omega
      have h40 : (j + 1) * 40 ≤ 140737488355328 := by omega
      obtain ⟨W1, hW1⟩ : ∃ W1, wr.alloc (.cells #[.int .i64 x, .int .i64 y, .slice A0 n0 c0, .bool r0, .int .i64 r1] 42) = W1 := ⟨_, rfl⟩
      have hb1 : Below wr.heap.size wr W1 := by rw [← hW1]; exact (Below.refl _ _).alloc (Nat.le_refl _) _
      have u0 : W1.cell? ⟨wr.heap.size, 2, none⟩ = some (.slice A0 n0 c0) := by rw [← hW1, World.cell?_alloc_at _ _ _ _ rfl]; rfl
      have u1 : W1.cell? ⟨wr.heap.size, 3, none⟩ = some (.bool r0) := by rw [← hW1, World.cell?_alloc_at _ _ _ _ rfl]; rfl
      have u2' : W1.cell? ⟨wr.heap.size, 4, none⟩ = some (.int .i64 r1) := by rw [← hW1, World.cell?_alloc_at _ _ _ _ rfl]; rfl
      have HB1 := Lib.hid hb1
      have HROW := Lib.hid (show (W1.alloc (.cells #[.slice A0 n0 c0, .bool r0, .int .i64 r1] 27)).ownsRow W0.heap.size 27 3 u3 j Fs from (HR.out.row.kept (row := none) ⟨hb1.os, hb1.tape, hb1.output, hb1.size, fun i hi _ => hb1.block i hi⟩ (by cases u3.ownBlock <;> simp)).alloc _)
      have HSZ := Lib.hid (show W0.heap.size ≤ (W1.alloc (.cells #[.slice A0 n0 c0, .bool r0, .int .i64 r1] 27)).heap.size from by rw [World.size_alloc]; exact Nat.le_succ_of_le (Nat.le_trans hsz hb1.size))
      clear hbd hb1
      go_wp2_with (at_builtin; refine wpList_append_own_at _ rfl _ _ 50 rfl W0.heap.size 27 i0 (.agg #[.slice none 0 0, .bool false, .int .i64 0]) 3 40 undAnf hinf hz0 hz1 hz2 rfl (by decide) _ _ _ rfl HROW.out ⟨W1.heap.size, 0, none⟩ 1 1 [.slice A0 n0 c0, .bool r0, .int .i64 r1] rfl rfl (news3 _ _ _ _ _) (by simp [Value.oneCell']) hml h40 HSZ.out ?_; intro v' w1 hown' hgrow _ hat)
      have hgrow' := hgrow
      change World.grownBy _ w1 u3.ownBlock at hgrow'
      have HM2 := Lib.hid (HR.out.more (by rw [HLA.out]; omega) (by rw [HLJ'.out j hlt]; exact HBD.out) (HB1.out.trans (((Below.refl _ _).alloc (Nat.le_refl _) _ : Below W1.heap.size W1 _).mono HB1.out.size)) hown' hgrow')
      clear hgrow hgrow' hown' hat
      go_roundw
      case rel => exact ⟨j + 1, _, by omega, by go_num, HM2⟩
      case measure => simp [intOf]; omega
    · have hjN : j = NF := by omega
      subst hjN
      have e2 : ¬ (j : Int) < (j : Int) := by omega
      have hml : j + 1 ≤ maxLen := by unfold maxLen; omega
      have h40 : (j + 1) * 40 ≤ 140737488355328 := by omega
      have HROW := Lib.hid (HR.out.row.alloc (.cells #[.slice A1 p.main.len c1, .bool p.main.last.v, .int .i64 p.main.last.n] 27))
      have HSZ := Lib.hid (show W0.heap.size ≤ (wr.alloc (.cells #[.slice A1 p.main.len c1, .bool p.main.last.v, .int .i64 p.main.last.n] 27)).heap.size from by rw [World.size_alloc]; exact Nat.le_succ_of_le hsz)
      have HEND := Lib.hid (fun (v' : Value) (w1 : World) (h : BodiesRow W W0 w1 (allB p) (j + 1) v' (Fs ++ [.slice A1 p.main.len c1, .bool p.main.last.v, .int .i64 p.main.last.n])) => (show ∃ A c, v' = .slice A (j + 1) c ∧ j + 1 ≤ c ∧ RowOf W.heap.size w1 (allB p) A ∧ Below W.heap.size W w1 from by
        have h' : BodiesRow W W0 w1 (allB p) (allB p).length v' (Fs ++ [.slice A1 p.main.len c1, .bool p.main.last.v, .int .i64 p.main.last.n]) := by rw [HLA.out]; exact h
        obtain ⟨A, c, e1, e2, e3⟩ := h'.whole HB0.out (by rw [HLA.out]; omega)
        rw [HLA.out] at e1 e2
        exact ⟨A, c, e1, e2, e3, HB0.out.trans (h.below.mono HB0.out.size)⟩))
      have HMORE := Lib.hid (fun (v' : Value) (w1 : World) (hown : w1.ownsRow W0.heap.size 27 3 v' (j + 1) (Fs ++ [.slice A1 p.main.len c1, .bool p.main.last.v, .int .i64 p.main.last.n])) (hg : (wr.alloc (.cells #[.slice A1 p.main.len c1, .bool p.main.last.v, .int .i64 p.main.last.n] 27)).grownBy w1 u3.ownBlock) => HR.out.more (by rw [HLA.out]; omega) (by rw [HLM'.out]; exact HM.out) ((Below.refl _ _).alloc (Nat.le_refl _) _) hown hg)
      generalize p.main.len = ml at *
      generalize p.main.last.v = mv at *
      generalize p.main.last.n = mn at *
      go_wp2_with (at_builtin; refine wpList_append_own_at _ rfl _ _ 50 rfl W0.heap.size 27 i0 (.agg #[.slice none 0 0, .bool false, .int .i64 0]) 3 40 undAnf hinf hz0 hz1 hz2 rfl (by decide) _ _ _ rfl HROW.out ⟨wr.heap.size, 0, none⟩ 1 1 [.slice A1 ml c1, .bool mv, .int .i64 mn] rfl rfl (news3 _ _ _ _ _) (by simp [Value.oneCell']) hml h40 HSZ.out ?_; intro v' w1 hown' hgrow _ hat)
      have hgrow' := hgrow
      change World.grownBy _ w1 u3.ownBlock at hgrow'
      obtain ⟨A, c, rfl, h1, h2, h3⟩ := HEND.out v' w1 (HMORE.out v' w1 hown' hgrow')
      clear hgrow hgrow' hown' hat
      go_ret
      exact ⟨A, c, rfl, h1, h2, h3⟩
end Go.Proofs.Ytnobggabjpcbfaa
