/-
 5 texts of this seat in one: FV23 FV24 FV25 FV26 FV27.
-/
import Derived.Test.YtnobggabjpcbfaaGreatQI26
set_option maxRecDepth 100000
set_option maxHeartbeats 16000000
set_option linter.unusedVariables false
set_option linter.unusedSimpArgs false
namespace Go.Proofs.YtnobggabjpcbfaaGreat
open Go.RowKit
section
variable {X : Nat → Prop} {nf nc : Nat} {W wr V w1 : World} {acc : List PV} {rv rv' : Value} {Fs : List Value}
structure AFill (X : Nat → Prop) (nf nc : Nat) (W : World) (acc : List PV) (wr : World) (rv : Value) (Fs : List Value) : Prop where
 below : Below W.heap.size W wr
 row : wr.ownsRow W.heap.size 46 3 rv acc.length Fs
 rep : RVals (PV3 X nf nc W) 3 acc Fs
theorem AFill.behind (h : AFill X nf nc W acc wr rv Fs) (hV : Below wr.heap.size wr V) : AFill X nf nc W acc V rv Fs :=
 ⟨h.below.trans (hV.mono h.below.size), h.row.kept ⟨hV.os, hV.tape, hV.output, hV.size, fun i hi _ => hV.block i hi⟩ (row := none) (by cases rv.ownBlock <;> simp), h.rep⟩
theorem AFill.more (h : AFill X nf nc W acc wr rv Fs) {v : PV} {a b c : Value} (hv : VIn X nf nc W v a b c) {T : TypeId}
 (hown : w1.ownsRow W.heap.size 46 3 rv' (acc.length + 1) (Fs ++ [a, b, c])) (hgrow : (wr.alloc (.cells #[a, b, c] T)).grownBy w1 rv.ownBlock) : AFill X nf nc W (acc ++ [v]) w1 rv' (Fs ++ [a, b, c]) := by
 have hs := h.below.size
 have hb1 : Below W.heap.size W (wr.alloc (.cells #[a, b, c] T)) := h.below.alloc hs _
 exact ⟨hb1.grown hgrow hb1.size (fun j hj => (h.row.lt j hj).1), by simpa using hown, h.rep.app (.single ⟨_, _, _, rfl, hv⟩ rfl)⟩
theorem AFill.whole (hX : ∀ k, X k → k < W.heap.size) (h : AFill X nf nc W acc wr rv Fs) : ∃ A cap, rv = .slice A acc.length cap ∧ acc.length ≤ cap ∧ VRow X nf nc wr A acc := by
 rcases Nat.eq_zero_or_pos acc.length with h0 | h0
 · rcases h.row.2 with ⟨rfl, _⟩ | ⟨g, cap, cur, rfl, _, _, hn, _⟩
   · exact ⟨none, 0, by rw [h0], by omega, .inl (List.eq_nil_of_length_eq_zero h0)⟩
   · exact ⟨_, _, rfl, hn, .inl (List.eq_nil_of_length_eq_zero h0)⟩
 · obtain ⟨g, cap, rfl, hg, hcap, -, hgl, hcell⟩ := own_cell h.row h0
   exact ⟨_, _, rfl, hcap, VRow.mk_ (h.rep.mono fun a c h1 => h1.step (KpX.below h.below) (Nat.le_refl _) (Nat.le_refl _)) (fun hx => by have := hX g hx; omega) hcell⟩
theorem bx_cells {w w2 : World} {y0 y1 y2 : Value} {T : TypeId} (h : Below (w.alloc (.cells #[y0, y1, y2] T)).heap.size (w.alloc (.cells #[y0, y1, y2] T)) w2) :
 w2.cell? ⟨w.heap.size, 0, none⟩ = some y0 ∧ w2.cell? ⟨w.heap.size, 1, none⟩ = some y1 ∧ w2.cell? ⟨w.heap.size, 2, none⟩ = some y2 ∧ (∀ i, w2.frozen? ⟨w.heap.size, i, none⟩ = false) := by
 have e := (h.block w.heap.size (by simp)).trans (new1 w (.cells #[y0, y1, y2] T))
 exact ⟨by simp [World.cell?, e], by simp [World.cell?, e], by simp [World.cell?, e], fun i => by simp [World.frozen?, e]⟩
theorem new1s (w : World) (b : Nat) (y0 y1 y2 : Value) (o : Obj) : ((((w.setCell ⟨b, 0, none⟩ y0).setCell ⟨b, 1, none⟩ y1).setCell ⟨b, 2, none⟩ y2).alloc o).heap[w.heap.size]? = some o := by
 have := new1 (((w.setCell ⟨b, 0, none⟩ y0).setCell ⟨b, 1, none⟩ y1).setCell ⟨b, 2, none⟩ y2) o
 simpa [World.setCell] using this
def AtPost (X : Nat → Prop) (nf nc : Nat) (W : World) (o : Option (List PV)) (e : Ending) (W' : World) : Prop :=
 Below W.heap.size W W' ∧ ((∃ vs A d, o = some vs ∧ e = .returned (.tuple #[.slice A vs.length d, .bool true]) ∧ vs.length ≤ d ∧ VRow X nf nc W' A vs) ∨ (o = none ∧ e = .returned (.tuple #[.slice none 0 0, .bool false])))
theorem ratoms_any (hX : ∀ k, X k → k < W.heap.size) {env : PEnv} {pv : Value} (he : EIn X nf nc W env pv) {ats : List Atm} {Aa : Option Addr} {ca : Nat} (ha : AtomsIn W.heap.size W Aa ats) (hsm : ats.length ≤ 1000000) :
 Calls Tryz.prog 52 #[.slice Aa ats.length ca, pv] W (AtPost X nf nc W (atomsP env ats)) := by
 obtain ⟨inf0, hinf, hz0, hz1, hz2⟩ := info_parts Tryz.infoV
 obtain ⟨pg, rfl⟩ := he.shape
 have h16 := ha.1
 have HA := Lib.hid (fun (j : Nat) (hj : j < ats.length) (V : World) (hV : Below W.heap.size W V) => (show ∃ b o, Aa = some ⟨b, o, none⟩ ∧ V.cell? ⟨b, o + j * 2, none⟩ = some (.bool ats[j].v) ∧ V.cell? ⟨b, o + j * 2 + 1, none⟩ = some (.int .i64 ats[j].n) from by
  rcases ha.2 with rfl | ⟨b, o, rfl, hlt, hc⟩
  · simp at hj
  · have := hc j hj
    simp only [List.getElem?_eq_getElem hj, Option.getD_some] at this
    exact ⟨b, o, rfl, (hV.cell (p := ⟨_, _, none⟩) hlt).trans this.1, (hV.cell (p := ⟨_, _, none⟩) hlt).trans this.2⟩))
 have HC := Lib.hid (fun (x : Int) (V : World) (hV : Below W.heap.size W V) => rfind_any hV he x)
 have HM := Lib.hid hX
 clear ha he hX
 obtain ⟨L, hL⟩ : ∃ L, ats.length = L := ⟨_, rfl⟩
 have HL := Lib.hid hL
 rw [hL] at h16 hsm ⊢
 clear hL
 go_enter Tryz.func52, Tryz.ntmps52
 go_wp2_with fail
 go_loopw [6, 7] (fun rv i wr => ∃ (j : Nat) (acc : List PV) (Fs : List Value), j ≤ L ∧ i = .int .i64 (j : Int) ∧ Hid (acc.length = j) ∧ Hid (AFill X nf nc W acc wr rv Fs) ∧ Hid (atomsP env (ats.take j) = some acc)) (fun _ i _ => L + 1 - (intOf i).toNat)
 case atStart => exact ⟨0, [], [], by omega, rfl, Lib.hid rfl, Lib.hid ⟨below_al1 _ _, own_empty W (Nat.le_refl _) _ _, .nil⟩, Lib.hid rfl⟩
 case round =>
  obtain ⟨j, acc, Fs, hj, rfl, HJ, HF, HP⟩ := hrel
  by_cases hlt : j < L
  · have hj0 : (0 : Int) ≤ (j : Int) := by omega
    have hjl : (j : Int) < (L : Int) := by omega
    have hja : j < ats.length := by rw [HL.out]; exact hlt
    have HT := Lib.hid (atomsP_take ats j hja acc HP.out)
    have HB := Lib.hid HF.out.below
    have hml : j + 1 ≤ maxLen := by unfold maxLen; omega
    obtain ⟨A1, n1, c1', rfl⟩ := own_shape HF.out.row
    have HAW := Lib.hid (fun (V : World) (hV : Below wr.heap.size wr V) => HA.out j hja V (HB.out.trans (hV.mono HB.out.size)))
    obtain ⟨b, o, rfl, c0, c1⟩ := HA.out j hja wr HB.out
    generalize ats[j] = at_ at *
    obtain ⟨av, an⟩ := at_
    have HAW2 := Lib.hid (fun (V : World) (hV : Below wr.heap.size wr V) => (show V.cell? ⟨b, o + j * 2, none⟩ = some (.bool av) ∧ V.cell? ⟨b, o + j * 2 + 1, none⟩ = some (.int .i64 an) from by
     obtain ⟨b', o', e, h0, h1⟩ := HAW.out V hV
     cases e
     exact ⟨h0, h1⟩))
    have HC1 := Lib.hid (fun (V : World) (hV : Below wr.heap.size wr V) => HC.out an V (HB.out.trans (hV.mono HB.out.size)))
    clear HAW HC
    have HNX := Lib.hid (fun (v : PV) (x y z : Value) (hv : VIn X nf nc W v x y z) (V w1 : World) (rv' : Value) (hV : Below wr.heap.size wr V) (hown : w1.ownsRow W.heap.size 46 3 rv' (acc.length + 1) (Fs ++ [x, y, z])) (hg : (V.alloc (.cells #[x, y, z] 46)).grownBy w1 (Value.ownBlock (.slice A1 n1 c1'))) => (HF.out.behind hV).more hv hown hg)
    have HOW := Lib.hid (fun (V : World) (hV : Below wr.heap.size wr V) => (HF.out.behind hV).row)
    have HBS := Lib.hid (fun (V : World) (hV : Below wr.heap.size wr V) => (show W.heap.size ≤ V.heap.size from Nat.le_trans HB.out.size hV.size))
    cases av
    · have HT2 : Hid (atomsP env (ats.take (j + 1)) = some (acc ++ [.int an])) := Lib.hid (HT.out.1 _ rfl)
      clear HT
      go_wp2_with (first
       | (go_at_call 73; refine (vint_any _ _).mono ?_; rintro e w' ⟨rfl, hbi⟩; have HBI := Lib.hid (hbi.alloc hbi.size (.cells #[.int .i64 1, .int .i64 an, .slice none 0 0] 46)); obtain ⟨d0, d1⟩ := HAW2.out _ HBI.out; clear hbi)
       | (at_builtin; refine wpList_append_row _ rfl _ _ 43 rfl W.heap.size 46 inf0 _ 3 40 Tryz.underlying43 hinf hz0 hz1 hz2 rfl (by decide) _ acc.length Fs rfl (World.ownsRow.alloc (HOW.out _ HBI.out) _) _ 1 1 [.int .i64 1, .int .i64 an, .slice none 0 0] rfl rfl (rowOf_block (new2 w' (.cells #[.int .i64 1, .int .i64 an, .slice none 0 0] 46) (.cells #[.int .i64 1, .int .i64 an, .slice none 0 0] 46))) (by simp [Value.oneCell']) (by rw [HJ.out]; exact hml) (by rw [HJ.out]; omega) (by rw [World.size_alloc]; exact Nat.le_succ_of_le (HBS.out _ HBI.out)) ?_; intro v' w1 hown' hgrow hat; have HQ := Lib.hid (HNX.out _ _ _ _ (.int an) _ _ _ HBI.out hown' hgrow); clear hown' hgrow hat))
      go_roundw
      case rel => exact ⟨j + 1, acc ++ [.int an], _, by omega, by go_num, Lib.hid (by simp [HJ.out]), HQ, HT2⟩
      case measure => simp [intOf]; omega
    · rcases hq : lookup env an with _ | v
      · have HT3 : Hid (atomsP env ats = none) := Lib.hid (HT.out.2 hq)
        have HFN := Lib.hid (fun (V : World) (hV : Below wr.heap.size wr V) => (HC1.out V hV).mono fun e w' (hp : FPost X nf nc W V (lookup env an) e w') => (show e = .returned (.tuple #[zeroV, .bool false]) ∧ Below V.heap.size V w' from by
         rcases hp with ⟨hb, h | h⟩
         · obtain ⟨v, a, b, c, h, -⟩ := h
           rw [hq] at h; cases h
         · exact ⟨h.2, hb⟩))
        have HEND := Lib.hid (fun (V : World) (hV : Below wr.heap.size wr V) => (show AtPost X nf nc W (atomsP env ats) (.returned (.tuple #[.slice none 0 0, .bool false])) V from ⟨HB.out.trans (hV.mono HB.out.size), .inr ⟨HT3.out, rfl⟩⟩))
        clear HT HC1
        go_wp2_with (first
         | (go_at_call 73; refine (vint_any _ _).mono ?_; rintro e w' ⟨rfl, hbi⟩; have HBI := Lib.hid (hbi.alloc hbi.size (.cells #[.int .i64 1, .int .i64 an, .slice none 0 0] 46)); obtain ⟨d0, d1⟩ := HAW2.out _ HBI.out; have HFI := Lib.hid (HFN.out _ HBI.out); have hsz := hbi.size; clear hbi)
         | (go_at_call 75; refine HFI.out.mono ?_; rintro e w2 ⟨rfl, hbf⟩; obtain ⟨k0, k1, k2, kf⟩ := bx_cells hbf; have HBF := Lib.hid (HBI.out.trans (hbf.mono HBI.out.size)); clear hbf))
        go_ret2
        exact HEND.out _ (((HBF.out.setCell (p := ⟨w'.heap.size, 0, none⟩) hsz _).setCell (p := ⟨w'.heap.size, 1, none⟩) hsz _).setCell (p := ⟨w'.heap.size, 2, none⟩) hsz _)
      · have HT2 : Hid (atomsP env (ats.take (j + 1)) = some (acc ++ [v])) := Lib.hid (HT.out.1 _ hq)
        have HFN := Lib.hid (fun (V : World) (hV : Below wr.heap.size wr V) => (HC1.out V hV).mono fun e w' (hp : FPost X nf nc W V (lookup env an) e w') => (show ∃ k n A l d, e = .returned (.tuple #[.agg #[.int .i64 k, .int .i64 n, .slice A l d], .bool true]) ∧ VIn X nf nc W v (.int .i64 k) (.int .i64 n) (.slice A l d) ∧ Below V.heap.size V w' from by
         rcases hp with ⟨hb, h | h⟩
         · obtain ⟨v', a, b, c, h, he, hv⟩ := h
           rw [hq] at h; cases h
           obtain ⟨k, n, A, l, d, rfl, rfl, rfl⟩ := hv.shape
           exact ⟨k, n, A, l, d, he, hv, hb⟩
         · rw [hq] at h; cases h.1))
        clear HT HC1
        go_wp2_with (first
         | (go_at_call 73; refine (vint_any _ _).mono ?_; rintro e w' ⟨rfl, hbi⟩; have HBI := Lib.hid (hbi.alloc hbi.size (.cells #[.int .i64 1, .int .i64 an, .slice none 0 0] 46)); obtain ⟨d0, d1⟩ := HAW2.out _ HBI.out; have HFI := Lib.hid (HFN.out _ HBI.out); have hsz := hbi.size; clear hbi)
         | (go_at_call 75; refine HFI.out.mono ?_; rintro e w2 ⟨kk, nn, AA, ll, dd, rfl, hvin, hbf⟩; obtain ⟨k0, k1, k2, kf⟩ := bx_cells hbf; have HV := Lib.hid hvin; have HBF := Lib.hid ((((HBI.out.trans (hbf.mono HBI.out.size)).setCell (p := ⟨w'.heap.size, 0, none⟩) hsz (.int .i64 kk)).setCell (p := ⟨w'.heap.size, 1, none⟩) hsz (.int .i64 nn)).setCell (p := ⟨w'.heap.size, 2, none⟩) hsz (.slice AA ll dd)); clear hbf hvin)
         | (at_builtin; refine wpList_append_row _ rfl _ _ 43 rfl W.heap.size 46 inf0 _ 3 40 Tryz.underlying43 hinf hz0 hz1 hz2 rfl (by decide) _ acc.length Fs rfl (World.ownsRow.alloc (HOW.out _ HBF.out) _) _ 1 1 [.int .i64 kk, .int .i64 nn, .slice AA ll dd] rfl rfl (rowOf_block (new1s w2 w'.heap.size (.int .i64 kk) (.int .i64 nn) (.slice AA ll dd) (.cells #[.int .i64 kk, .int .i64 nn, .slice AA ll dd] 46))) (by simp [Value.oneCell']) (by rw [HJ.out]; exact hml) (by rw [HJ.out]; omega) (by rw [World.size_alloc]; exact Nat.le_succ_of_le (HBS.out _ HBF.out)) ?_; intro v' w1 hown' hgrow hat; have HQ := Lib.hid (HNX.out _ _ _ _ HV.out _ _ _ HBF.out hown' hgrow); clear hown' hgrow hat))
        go_roundw
        case rel => exact ⟨j + 1, acc ++ [v], _, by omega, by go_num, Lib.hid (by simp [HJ.out]), HQ, HT2⟩
        case measure => simp [intOf]; omega
  · have hjl : ¬ (j : Int) < (L : Int) := by omega
    obtain ⟨A, cap, rfl, hcap, hrow⟩ := HF.out.whole HM.out
    have hje : j = L := by omega
    have HE := Lib.hid (show AtPost X nf nc W (atomsP env ats) (.returned (.tuple #[.slice A acc.length cap, .bool true])) wr from ⟨HF.out.below, .inl ⟨acc, A, cap, by have := HP.out; rw [List.take_of_length_le (by rw [HL.out]; omega)] at this; exact this, rfl, hcap, hrow⟩⟩)
    clear hcap hrow
    go_wp2_with fail
    go_ret2
    exact HE.out
end
end Go.Proofs.YtnobggabjpcbfaaGreat
namespace Go.Proofs.YtnobggabjpcbfaaGreat
open Go.RowKit
section
variable {X Y : Nat → Prop} {B mb cb : Nat} {fv : Value} {inp : List Int} {fuel : FL} {s s1 : FSt} {cut stk rai : Bool} {x0 x1 x2 : Value} {W W' W1 W2 : World} {o : FOut}
theorem frameV (h : RGo X B mb cb fv inp fuel s W) {v : PV} {y0 y1 y2 : Value} (hv : VIn X s.made.length s.cells.length W v y0 y1 y2) (V0 : World) (hV0 : (W.alloc (.cells #[y0, y1, y2] 46)).alloc (.cells #[.int .i64 0, .int .i64 0, .slice none 0 0] 46) = V0) :
 Below W.heap.size W V0 ∧ V0.heap[W.heap.size]? = some (.cells #[y0, y1, y2] 46 (0, 0)) ∧ V0.heap[W.heap.size + 1]? = some (.cells #[.int .i64 0, .int .i64 0, .slice none 0 0] 46 (0, 0)) ∧ RGo (Bx X (W.heap.size + 1)) B mb cb fv inp fuel s V0 ∧ VIn (Bx X (W.heap.size + 1)) s.made.length s.cells.length V0 v y0 y1 y2 ∧ W.heap.size + 1 < V0.heap.size := by
 have hb := below_al2 W (.cells #[y0, y1, y2] 46) (.cells #[.int .i64 0, .int .i64 0, .slice none 0 0] 46)
 rw [hV0] at hb
 have h1 : V0.heap[W.heap.size + 1]? = some (.cells #[.int .i64 0, .int .i64 0, .slice none 0 0] 46 (0, 0)) := by rw [← hV0]; exact new2 _ _ _
 have h0 : V0.heap[W.heap.size]? = some (.cells #[y0, y1, y2] 46 (0, 0)) := by
  rw [← hV0]
  exact ((below_al1 _ _).block W.heap.size (by simp)).trans (new1 _ _)
 exact ⟨hb, h0, h1, (RIn.bx h (by omega)).below hb, (hv.bx (b := W.heap.size + 1) (by omega)).step (KpX.below hb) (Nat.le_refl _) (Nat.le_refl _), (Array.getElem?_eq_some_iff.1 h1).1⟩
theorem fieldF_no {v : PV} {n : Int} (hn : 0 ≤ n) (h : ∀ i, v ≠ .fn i) : fieldF v n s = fieldO v n s := by
 cases v with
 | fn i => exact absurd rfl (h i)
 | blk t l => simp only [fieldF, fieldO]; by_cases hl : n < l.length <;> simp [hn, hl]
 | _ => rfl
theorem rrfield_no (h : RGo X B mb cb fv inp fuel s W) {v : PV} {a b c : Value} (hv : VIn X s.made.length s.cells.length W v a b c) (n : Int) (hn : 0 ≤ n) (hno : ∀ i, v ≠ .fn i) :
 Calls Tryz.prog 69 #[.pointer (some ⟨cb, 0, none⟩), .agg #[a, b, c], .int .i64 n] W (ROut X B mb cb fv inp fuel s (fieldF v n s) W) := by
 rw [fieldF_no hn hno]
 obtain ⟨k0, n0, A0, l0, d0, rfl, rfl, rfl⟩ := hv.shape
 have hk3 : k0 ≠ 3 := fun e => by
  subst e
  cases hv with
  | fn i h => exact hno i rfl
 have hk4 : (k0 == 3) = false := by simpa using hk3
 have hk5 : (k0 != 3) = true := by simpa using hk3
 generalize hV0 : (W.alloc (.cells #[.int .i64 k0, .int .i64 n0, .slice A0 l0 d0] 46)).alloc (.cells #[.int .i64 0, .int .i64 0, .slice none 0 0] 46) = V0
 obtain ⟨hb0, hq, hbx, hg0, hv0, hsz⟩ := frameV h hv V0 hV0
 have mc := hg0.c.ptr
 have q0 : V0.cell? ⟨W.heap.size, 0, none⟩ = some (.int .i64 k0) := by simp [World.cell?, hq]
 have q1 : V0.cell? ⟨W.heap.size, 1, none⟩ = some (.int .i64 n0) := by simp [World.cell?, hq]
 have q2 : V0.cell? ⟨W.heap.size, 2, none⟩ = some (.slice A0 l0 d0) := by simp [World.cell?, hq]
 have HS := Lib.hid (fun (V : World) (hb : Below V0.heap.size V0 V) => (rfield_any (hg0.below hb) (hv0.step (KpX.below hb) (Nat.le_refl _) (Nat.le_refl _)) n hn).mono fun e w' hp => ROut.box (X := X) (W := W) (b := W.heap.size + 1) h.hX h.hBW (own_lt h) (Nat.le_succ _) ((hb.block _ hsz).trans hbx) (Stp.below (hb0.trans (hb.mono hb0.size)) h.hBW) ⟨Nat.le_refl _, Nat.le_refl _⟩ hp)
 have HBD := Lib.hid (show Below V0.heap.size V0 V0.drew from (Below.refl _ _).drew)
 generalize fieldO v n s = o at *
 clear h hv hb0 hq hbx hg0 hv0 hk3 hno hn
 go_enter Tryz.func69, Tryz.ntmps69
 go_wp2_with fail
 go_region_law ((first
  | (go_simp; go_at_call 87; refine (HS.out _ HBD.out).mono ?_; rintro e w' ⟨k, n, A, l, d, rfl, ⟨f0, f1, f2, ff⟩, hR⟩; have HR := Lib.hid hR; clear hR)))
 all_goals
  go_wp2_with fail
  exact bodyPost_ret (v := .agg #[.int .i64 k, .int .i64 n, .slice A l d]) (by simp [results, Tryz.results69, go_sem, f0, f1, f2]) rfl HR.out
end
end Go.Proofs.YtnobggabjpcbfaaGreat
namespace Go.Proofs.YtnobggabjpcbfaaGreat
open Go.RowKit
section
variable {X Y : Nat → Prop} {B mb cb : Nat} {fv : Value} {inp : List Int} {fuel : FL} {s s1 : FSt} {cut stk rai : Bool} {x0 x1 x2 : Value} {W W' W1 W2 : World} {o : FOut}
theorem rrfield_fn (h : RGo X B mb cb fv inp fuel s W) {i : Nat} (hi : i < s.made.length) (n : Int) (hn0 : 0 ≤ n) :
 Calls Tryz.prog 69 #[.pointer (some ⟨cb, 0, none⟩), .agg #[.int .i64 3, .int .i64 (i : Int), .slice none 0 0], .int .i64 n] W (ROut X B mb cb fv inp fuel s (fieldF (.fn i) n s) W) := by
 generalize hV0 : (W.alloc (.cells #[.int .i64 3, .int .i64 (i : Int), .slice none 0 0] 46)).alloc (.cells #[.int .i64 0, .int .i64 0, .slice none 0 0] 46) = V0
 obtain ⟨hb0, hq, hbx, hg0, hv0, hsz⟩ := frameV h (.fn i hi) V0 hV0
 have mc := hg0.c.ptr
 have q0 : V0.cell? ⟨W.heap.size, 0, none⟩ = some (.int .i64 3) := by simp [World.cell?, hq]
 have q1 : V0.cell? ⟨W.heap.size, 1, none⟩ = some (.int .i64 (i : Int)) := by simp [World.cell?, hq]
 obtain ⟨Af, cf, hcb, hcap, hrow⟩ := hg0.c
 obtain ⟨b, oo, g, rfl, c0, c1, A, c, rfl, hl, hm, hv⟩ := hrow.at_ hi
 have mc2 : V0.cell? ⟨cb, 2, none⟩ = some (.slice (some ⟨b, oo, none⟩) s.made.length cf) := by simp [World.cell?, hcb]
 have HS := Lib.hid (fun (V : World) (hb : Below V0.heap.size V0 V) => (rstop_any (hg0.below hb)).mono fun e w' hp => ROut.box (X := X) (W := W) (b := W.heap.size + 1) h.hX h.hBW (own_lt h) (Nat.le_succ _) ((hb.block _ hsz).trans hbx) (Stp.below (hb0.trans (hb.mono hb0.size)) h.hBW) ⟨Nat.le_refl _, Nat.le_refl _⟩ (ROut.stop hp))
 obtain ⟨o, ho⟩ : ∃ o, fieldF (.fn i) n s = o := ⟨_, rfl⟩
 rw [ho]
 have hme : (s.made[i]?.getD default) = s.made[i] := by simp [hi]
 have hi0 : (0 : Int) ≤ (i : Int) := by omega
 have hil : (i : Int) < (s.made.length : Int) := by omega
 have HB := Lib.hid (fun (k : Nat) => (show Below V0.heap.size V0 (V0.drewN k) from below_drewN (Below.refl _ _) k))
 by_cases hin : 1 ≤ n ∧ n ≤ s.made[i].2.length
 · obtain rfl : o = (.val ((s.made[i].2)[(n - 1).toNat]?.getD default), s) := by
    rw [← ho]; simp only [fieldF]; rw [hme, if_pos hin]
   obtain ⟨m, rfl⟩ : ∃ m : Nat, n = (m : Int) + 1 := ⟨(n - 1).toNat, by omega⟩
   have hml : m < s.made[i].2.length := by omega
   obtain ⟨b2, o2, a0, a1, a2, rfl, d0, d1, d2, hvv⟩ := hv.at_ hml
   obtain ⟨k1, n1, A1, l1, dd1, rfl, rfl, rfl⟩ := hvv.shape
   have e1 : ((m : Int) + 1 - 1).toNat = m := by omega
   rw [e1] at ho ⊢
   simp only [List.getElem?_eq_getElem hml, Option.getD_some] at ho ⊢
   have HP := Lib.hid (fun (V : World) (hb : Below V0.heap.size V0 V) => ROut.box' (X := X) (fuel := fuel) (s1 := s) (o := (.val s.made[i].2[m], s)) (W := W) (W1 := V0) (W2 := V) (b := W.heap.size + 1) h.hX h.hBW (own_lt h) (Nat.le_succ _) hbx (Stp.below hb0 h.hBW) ⟨Nat.le_refl _, Nat.le_refl _⟩
    (show ROut (Bx X (W.heap.size + 1)) B mb cb fv inp fuel s (.val s.made[i].2[m], s) V0 (.returned (.agg #[.int .i64 k1, .int .i64 n1, .slice A1 l1 dd1])) V from
     ⟨Stp.below hb hg0.hBW, ⟨Nat.le_refl _, Nat.le_refl _⟩, _, _, _, _, _, rfl, hg0.below hb, hvv.step (KpX.below hb) (Nat.le_refl _) (Nat.le_refl _)⟩))
   generalize ((Res.val s.made[i].2[m], s) : FOut) = o at *
   clear h hb0 hq hbx hg0 hv0 hrow hv hvv HS hme c0 ho hcb e1 hn0
   have hmL : (m : Int) < (s.made[i].2.length : Int) := by omega
   have hg2 : ¬ (s.made[i].2.length : Int) < (m : Int) + 1 := by omega
   have hkl : i < s.made.length := hi
   clear hml hin
   generalize s.made[i].2.length = L at *
   have hw : IntKind.i64.wrap ((m : Int) + 1 - 1) = (m : Int) := by rw [IntKind.wrap_i64]; omega
   have hm0 : (0 : Int) ≤ (m : Int) := by omega
   have hg1 : ¬ (m : Int) + 1 < 1 := by omega
   clear hi hkl
   generalize s.made.length = kl at *
   go_enter Tryz.func69, Tryz.ntmps69
   go_wp2_with fail
   go_quiet (fail)
   obtain ⟨⟨f0, f1, f2, ff⟩, hR⟩ := HP.out _ (HB.out nq)
   have HR := Lib.hid hR
   clear hR
   go_wp2_with fail
   exact bodyPost_ret (v := .agg #[.int .i64 k1, .int .i64 n1, .slice A1 l1 dd1]) (by simp [results, Tryz.results69, go_sem, f0, f1, f2]) rfl HR.out
 · obtain rfl : o = (.stuck, s) := by
    rw [← ho]; simp only [fieldF]; rw [hme, if_neg hin]
   generalize ((Res.stuck, s) : FOut) = o at *
   have hcase : n < 1 ∨ (¬ n < 1 ∧ (s.made[i].2.length : Int) < n) := by omega
   clear h hb0 hq hbx hg0 hv0 hrow hv hme c0 ho hcb hin
   generalize s.made[i].2.length = L at *
   clear hi
   generalize s.made.length = kl at *
   rcases hcase with h1 | ⟨h1, h2⟩
   all_goals
    go_enter Tryz.func69, Tryz.ntmps69
    go_wp2_with fail
    go_quiet (fail)
    go_wp2_with (go_at_call 49; refine (HS.out _ (HB.out nq)).mono ?_; rintro e w' ⟨k, n, A, l, d, rfl, ⟨f0, f1, f2, ff⟩, hR⟩; have HR := Lib.hid hR; clear hR)
    exact bodyPost_ret (v := .agg #[.int .i64 k, .int .i64 n, .slice A l d]) (by simp [results, Tryz.results69, go_sem, f0, f1, f2]) rfl HR.out
theorem rrfield_any (h : RGo X B mb cb fv inp fuel s W) {v : PV} {a b c : Value} (hv : VIn X s.made.length s.cells.length W v a b c) (n : Int) (hn : 0 ≤ n) :
 Calls Tryz.prog 69 #[.pointer (some ⟨cb, 0, none⟩), .agg #[a, b, c], .int .i64 n] W (ROut X B mb cb fv inp fuel s (fieldF v n s) W) := by
 by_cases hf : ∃ i, v = .fn i
 · obtain ⟨i, rfl⟩ := hf
   cases hv with
   | fn i h' => exact rrfield_fn h h' n hn
 · exact rrfield_no h hv n hn (fun i e => hf ⟨i, e⟩)
end
end Go.Proofs.YtnobggabjpcbfaaGreat
namespace Go.Proofs.YtnobggabjpcbfaaGreat
open Go.RowKit
def FunsV (B : Nat) (w : World) (p : FlatP) (fv : Value) : Prop :=
 ∃ Af cf b o, fv = .slice Af p.funs.length cf ∧ p.funs.length ≤ cf ∧ (0 < p.funs.length → Af = some ⟨b, o, none⟩ ∧ b < B) ∧
  ∀ j (h : j < p.funs.length), ∃ g0 g1 g2, w.cell? ⟨b, o + j * 5, none⟩ = some (.int .i64 p.funs[j].env) ∧ w.cell? ⟨b, o + j * 5 + 1, none⟩ = some (.int .i64 p.funs[j].param) ∧ w.cell? ⟨b, o + j * 5 + 2, none⟩ = some g0 ∧ w.cell? ⟨b, o + j * 5 + 3, none⟩ = some g1 ∧ w.cell? ⟨b, o + j * 5 + 4, none⟩ = some g2 ∧ BodyIn B w p.funs[j].body #[g0, g1, g2]
theorem FunsV.kept {B : Nat} {w w' : World} (hb : Below B w w') {p : FlatP} {fv : Value} (h : FunsV B w p fv) : FunsV B w' p fv := by
 obtain ⟨Af, cf, b, o, h1, h2, h5, h6⟩ := h
 refine ⟨Af, cf, b, o, h1, h2, h5, fun j hj => ?_⟩
 obtain ⟨g0, g1, g2, e0, e1, e2, e3, e4, e5⟩ := h6 j hj
 have hlt := (h5 (by omega)).2
 exact ⟨g0, g1, g2, (hb.cell (p := ⟨_, _, none⟩) hlt).trans e0, (hb.cell (p := ⟨_, _, none⟩) hlt).trans e1, (hb.cell (p := ⟨_, _, none⟩) hlt).trans e2, (hb.cell (p := ⟨_, _, none⟩) hlt).trans e3, (hb.cell (p := ⟨_, _, none⟩) hlt).trans e4, e5.kept hb⟩
inductive ShortA : Anf → Prop
 | ret (a : Atm) : ShortA (.ret a)
 | bind {x k n : Int} {ats : List Atm} {ks : List Int} {bl : List Anf} {rest : Anf} (hk : ks.length ≤ 3000) (ha : ats.length ≤ 1000000) (hb : ∀ c ∈ bl, ShortA c) (hr : ShortA rest) : ShortA (.bind x k n ats ks bl rest)
theorem ShortA.tail : ∀ {t : Anf}, ShortA t → ∀ j, ShortA (t.tail j)
 | t, h, 0 => by rw [Anf.tail_zero]; exact h
 | .ret a, h, j + 1 => h
 | .bind _ _ _ _ _ _ r, h, j + 1 => by
  cases h with
  | bind _ _ _ hr => exact hr.tail j
def MadeIn (nf : Nat) (s : FSt) : Prop := ∀ c ∈ s.made, 0 ≤ c.1 ∧ c.1 < nf
def RBodyOk (p : FlatP) (B mb cb : Nat) (fv : Value) (inp : List Int) (n : Nat) : Prop :=
 ∀ (X : Nat → Prop) (fuel : FL) (s : FSt) (W : World) (t : Anf) (g0 g1 g2 : Value) (e : PEnv) (pv : Value), RGo X B mb cb fv inp fuel s W → (∀ k, X k → k < W.heap.size) → FunsV B W p fv → MadeIn p.funs.length s → BodyIn B W t #[g0, g1, g2] → WfA p.funs.length t → ShortA t → EIn X s.made.length s.cells.length W e pv → s.left < n →
  Calls Tryz.prog 29 #[.pointer (some ⟨cb, 0, none⟩), .agg #[g0, g1, g2], pv] W (ROut X B mb cb fv inp fuel s (evF p.funs inp n t e s) W)
section
variable {X Y : Nat → Prop} {B mb cb : Nat} {fv : Value} {inp : List Int} {fuel : FL} {s s1 : FSt} {cut stk rai : Bool} {x0 x1 x2 : Value} {W W' W1 W2 : World} {o : FOut}
abbrev FSt.dec (s : FSt) : FSt := { s with left := s.left - 1 }
abbrev FL.dec (fuel : FL) : FL := ⟨fuel.f, fuel.lim - 1⟩
theorem cell_block {w : World} {b i : Nat} {cs : Array Value} {T : TypeId} {fr : Nat × Nat} {v : Value} (h : w.heap[b]? = some (.cells cs T fr)) (hi : cs[i]? = some v) : w.cell? ⟨b, i, none⟩ = some v := by
 simp [World.cell?, h, hi]
theorem below_al3 (w : World) (o p r : Obj) : Below w.heap.size w (((w.alloc o).alloc p).alloc r) := (below_al2 w o p).alloc (below_al2 w o p).size r
theorem ROut.upd {e : Ending} (h : ROut X B mb cb fv inp fuel.dec s o W e W') (h1 : fuel.lim - 1 + 1 = fuel.lim) (h2 : fuel.lim ≤ fuel.f) : ROut X B mb cb fv inp fuel s o W e W' := h.lim_ (l := fuel.lim) (by show fuel.lim - 1 ≤ _; omega) h2
theorem ROut.updu {e : Ending} (h : ROut X B mb cb fv inp fuel.dec.up s o W e W') (h1 : fuel.lim - 1 + 1 = fuel.lim) : ROut X B mb cb fv inp fuel s o W e W' := by
 have : fuel.dec.up = fuel := by cases fuel; simp only [FL.up, FL.dec] at h1 ⊢; rw [h1]
 rwa [this] at h
theorem frameVV (h : RGo X B mb cb fv inp fuel s W) (y0 y1 y2 u0 u1 u2 : Value) (V0 : World) (hV0 : (((W.alloc (.cells #[y0, y1, y2] 46)).alloc (.cells #[u0, u1, u2] 46)).alloc (.cells #[.int .i64 0, .int .i64 0, .slice none 0 0] 46)) = V0) :
 Below W.heap.size W V0 ∧ V0.heap[W.heap.size]? = some (.cells #[y0, y1, y2] 46 (0, 0)) ∧ V0.heap[W.heap.size + 1]? = some (.cells #[u0, u1, u2] 46 (0, 0)) ∧ V0.heap[W.heap.size + 1 + 1]? = some (.cells #[.int .i64 0, .int .i64 0, .slice none 0 0] 46 (0, 0)) ∧ RGo (Bx X (W.heap.size + 1 + 1)) B mb cb fv inp fuel s V0 ∧ W.heap.size + 1 + 1 < V0.heap.size := by
 have hb := below_al3 W (.cells #[y0, y1, y2] 46) (.cells #[u0, u1, u2] 46) (.cells #[.int .i64 0, .int .i64 0, .slice none 0 0] 46)
 rw [hV0] at hb
 have h2 : V0.heap[W.heap.size + 1 + 1]? = some (.cells #[.int .i64 0, .int .i64 0, .slice none 0 0] 46 (0, 0)) := by rw [← hV0]; exact new3 _ _ _ _
 have h1 : V0.heap[W.heap.size + 1]? = some (.cells #[u0, u1, u2] 46 (0, 0)) := by
  rw [← hV0]
  exact ((below_al1 _ _).block (W.heap.size + 1) (by simp)).trans (new2 W _ _)
 have h0 : V0.heap[W.heap.size]? = some (.cells #[y0, y1, y2] 46 (0, 0)) := by
  rw [← hV0]
  exact ((below_al1 _ _).block W.heap.size (by simp; omega)).trans (((below_al1 _ _).block W.heap.size (by simp)).trans (new1 W _))
 exact ⟨hb, h0, h1, h2, (RIn.bx h (by omega)).below hb, (Array.getElem?_eq_some_iff.1 h2).1⟩
end
end Go.Proofs.YtnobggabjpcbfaaGreat
namespace Go.Proofs.YtnobggabjpcbfaaGreat
open Go.RowKit
section
variable {X Y : Nat → Prop} {B mb cb n : Nat} {p : FlatP} {fv : Value} {inp : List Int} {fuel : FL} {s s1 : FSt} {cut stk rai : Bool} {x0 x1 x2 : Value} {W W' W1 W2 V0 w : World} {o : FOut}
theorem call_reads (hg : RGo X B mb cb fv inp fuel s w) (hf : FunsV B w p fv) (hmd : MadeIn p.funs.length s) {i : Nat} (hi : i < s.made.length) :
 ∃ (j : Nat) (bm om cm bf of cf : Nat) (A : Option Addr) (l c : Nat) (lv : Bool) (ln : Int), s.made[i].1 = (j : Int) ∧ j < p.funs.length ∧ w.cell? ⟨cb, 1, none⟩ = some (.slice (some ⟨bf, of, none⟩) p.funs.length cf) ∧ w.cell? ⟨cb, 2, none⟩ = some (.slice (some ⟨bm, om, none⟩) s.made.length cm) ∧
  w.cell? ⟨bm, om + i * 2, none⟩ = some (.int .i64 (j : Int)) ∧ w.cell? ⟨bf, of + j * 5, none⟩ = some (.int .i64 (p.funs[j]?.getD default).env) ∧ w.cell? ⟨bf, of + j * 5 + 1, none⟩ = some (.int .i64 (p.funs[j]?.getD default).param) ∧ w.cell? ⟨bf, of + j * 5 + 2, none⟩ = some (.slice A l c) ∧
  w.cell? ⟨bf, of + j * 5 + 3, none⟩ = some (.bool lv) ∧ w.cell? ⟨bf, of + j * 5 + 4, none⟩ = some (.int .i64 ln) ∧ BodyIn B w (p.funs[j]?.getD default).body #[.slice A l c, .bool lv, .int .i64 ln] := by
 obtain ⟨h1, h2⟩ := hmd _ (List.getElem_mem hi)
 obtain ⟨Am, cm, hcb, hcm, hrow⟩ := hg.c
 obtain ⟨bm, om, g, rfl, c0, c1, -⟩ := hrow.at_ hi
 obtain ⟨Af, cf, bf, of, rfl, hcf, hA, hfs⟩ := hf
 obtain ⟨j, hj⟩ : ∃ j : Nat, s.made[i].1 = (j : Int) := ⟨s.made[i].1.toNat, by omega⟩
 have hjl : j < p.funs.length := by omega
 obtain ⟨rfl, -⟩ := hA (by omega)
 obtain ⟨g0, g1, g2, e0, e1, e2, e3, e4, hbd⟩ := hfs j hjl
 have hbd0 := hbd
 obtain ⟨A, c, b, o, hv, -⟩ := hbd0
 simp only [Array.mk.injEq, List.cons.injEq, and_true] at hv
 obtain ⟨rfl, rfl, rfl⟩ := hv
 have hg : p.funs[j]?.getD default = p.funs[j] := by simp [hjl]
 exact ⟨j, bm, om, cm, bf, of, cf, A, _, c, _, _, hj, hjl, by simp [World.cell?, hcb], by simp [World.cell?, hcb], by rw [← hj]; exact c0, by rw [hg]; exact e0, by rw [hg]; exact e1, e2, e3, e4, by rw [hg]; exact hbd⟩
theorem callF_no {rec : Anf → PEnv → FSt → FOut} {f a : PV} (h : ∀ i, f ≠ .fn i) : callF p.funs rec f a s = (.stuck, s) := by
 cases f with
 | fn i => exact absurd rfl (h i)
 | _ => rfl
theorem rcall_no (h : RGo X B mb cb fv inp fuel s W) {f a : PV} {f0 f1 f2 a0 a1 a2 : Value} (hf : VIn X s.made.length s.cells.length W f f0 f1 f2) (ha : VIn X s.made.length s.cells.length W a a0 a1 a2) (hno : ∀ i, f ≠ .fn i) (rec : Anf → PEnv → FSt → FOut) :
 Calls Tryz.prog 70 #[.pointer (some ⟨cb, 0, none⟩), .agg #[f0, f1, f2], .agg #[a0, a1, a2]] W (ROut X B mb cb fv inp fuel s (callF p.funs rec f a s) W) := by
 rw [callF_no hno]
 obtain ⟨k1, n1, A1, l1, d1, rfl, rfl, rfl, -, -, -, -, hfn, hnf⟩ := hf.one_
 obtain ⟨k2, n2, A2, l2, d2, rfl, rfl, rfl⟩ := ha.shape
 generalize hV0 : (((W.alloc (.cells #[.int .i64 k1, .int .i64 n1, .slice A1 l1 d1] 46)).alloc (.cells #[.int .i64 k2, .int .i64 n2, .slice A2 l2 d2] 46)).alloc (.cells #[.int .i64 0, .int .i64 0, .slice none 0 0] 46)) = V0
 obtain ⟨hb0, hq1, hq2, hbx, hg0, hsz⟩ := frameVV h _ _ _ _ _ _ V0 hV0
 have HS := Lib.hid ((rstop_any hg0).mono fun e w' hp => ROut.box (X := X) (W := W) (b := W.heap.size + 1 + 1) h.hX h.hBW (own_lt h) (by omega) hbx (Stp.below hb0 h.hBW) ⟨Nat.le_refl _, Nat.le_refl _⟩ (ROut.stop hp))
 have u0 : V0.cell? ⟨W.heap.size, 0, none⟩ = some (.int .i64 k1) := cell_block hq1 rfl
 have mc := hg0.c.ptr
 have hk : k1 ≠ 3 := fun e => by
  obtain ⟨i, hi, -⟩ := hfn e
  exact hno i hi
 have hk4 : (k1 == 3) = false := by simpa using hk
 have hk5 : (k1 != 3) = true := by simpa using hk
 generalize ((Res.stuck, s) : FOut) = o at *
 clear h hf ha hb0 hq1 hq2 hbx hg0 hfn hnf hk hno
 go_enter Tryz.func70, Tryz.ntmps70
 go_wp2_with (go_at_call 49; refine HS.out.mono ?_; rintro e w' ⟨k, n, A, l, d, rfl, ⟨f0, f1, f2, ff⟩, hR⟩; have HR := Lib.hid hR; clear hR)
 exact bodyPost_ret (v := .agg #[.int .i64 k, .int .i64 n, .slice A l d]) (by simp [results, Tryz.results70, go_sem, f0, f1, f2]) rfl HR.out
theorem rcall_cut (h : RGo X B mb cb fv inp fuel s W) {i : Nat} (hi : i < s.made.length) {a : PV} {a0 a1 a2 : Value} (ha : VIn X s.made.length s.cells.length W a a0 a1 a2) (hl : s.left = 0) :
 Calls Tryz.prog 70 #[.pointer (some ⟨cb, 0, none⟩), .agg #[.int .i64 3, .int .i64 (i : Int), .slice none 0 0], .agg #[a0, a1, a2]] W (ROut X B mb cb fv inp fuel s (.cut, s) W) := by
 obtain ⟨k2, n2, A2, l2, d2, rfl, rfl, rfl⟩ := ha.shape
 generalize hV0 : (((W.alloc (.cells #[.int .i64 3, .int .i64 (i : Int), .slice none 0 0] 46)).alloc (.cells #[.int .i64 k2, .int .i64 n2, .slice A2 l2 d2] 46)).alloc (.cells #[.int .i64 0, .int .i64 0, .slice none 0 0] 46)) = V0
 obtain ⟨hb0, hq1, hq2, hbx, hg0, hsz⟩ := frameVV h _ _ _ _ _ _ V0 hV0
 have HS := Lib.hid ((rstep_any hg0).mono fun e w' (hp : StepPostR (Bx X (W.heap.size + 1 + 1)) B mb cb fv inp fuel s V0 e w') => (show e = .returned (.bool false) ∧ (w'.cell? ⟨W.heap.size + 1 + 1, 0, none⟩ = some (.int .i64 0) ∧ w'.cell? ⟨W.heap.size + 1 + 1, 1, none⟩ = some (.int .i64 0) ∧ w'.cell? ⟨W.heap.size + 1 + 1, 2, none⟩ = some (.slice none 0 0) ∧ (∀ i, w'.frozen? ⟨W.heap.size + 1 + 1, i, none⟩ = false)) ∧
  ROut X B mb cb fv inp fuel s (.cut, s) W (.returned (.agg #[.int .i64 0, .int .i64 0, .slice none 0 0])) (((w'.setCell ⟨W.heap.size + 1 + 1, 0, none⟩ (.int .i64 0)).setCell ⟨W.heap.size + 1 + 1, 1, none⟩ (.int .i64 0)).setCell ⟨W.heap.size + 1 + 1, 2, none⟩ (.slice none 0 0)) from by
  obtain ⟨hst, ⟨h0, rfl, hg⟩ | ⟨h0, _⟩⟩ := hp
  · exact ⟨rfl, ROut.box' (X := X) (fuel := fuel) (s := s) (s1 := s) (o := (.cut, s)) (W := W) (W1 := V0) (W2 := w') (b := W.heap.size + 1 + 1) (k := 0) (n := 0) (A := none) (l := 0) (d := 0) h.hX h.hBW (own_lt h) (by omega) hbx (Stp.below hb0 h.hBW) ⟨Nat.le_refl _, Nat.le_refl _⟩ ⟨hst, ⟨Nat.le_refl _, Nat.le_refl _⟩, 0, 0, none, 0, 0, rfl, hg⟩⟩
  · exact absurd hl h0))
 have u0 : V0.cell? ⟨W.heap.size, 0, none⟩ = some (.int .i64 3) := cell_block hq1 rfl
 have mc := hg0.c.ptr
 generalize ((Res.cut, s) : FOut) = o at *
 clear h ha hb0 hq1 hq2 hbx hg0 hl hi
 go_enter Tryz.func70, Tryz.ntmps70
 go_wp2_with (go_at_call 47; refine HS.out.mono ?_; rintro e w' ⟨rfl, ⟨f0, f1, f2, ff⟩, hR⟩; have HR := Lib.hid hR; clear hR)
 exact bodyPost_ret (v := zeroV) (by simp [results, Tryz.results70, go_sem, f0, f1, f2]) rfl HR.out
end
end Go.Proofs.YtnobggabjpcbfaaGreat
