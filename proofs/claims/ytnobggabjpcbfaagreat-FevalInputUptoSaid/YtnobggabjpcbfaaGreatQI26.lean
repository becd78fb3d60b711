/-
 3 texts of this seat in one: FV18 FV20 FV21.
-/
import Derived.Test.YtnobggabjpcbfaaGreatQI25
set_option maxRecDepth 100000
set_option maxHeartbeats 16000000
set_option linter.unusedVariables false
set_option linter.unusedSimpArgs false
namespace Go.Proofs.YtnobggabjpcbfaaGreat
open Go.RowKit
section
variable {X Y : Nat → Prop} {B mb cb : Nat} {fv : Value} {inp : List Int} {fuel : FL} {s s1 : FSt} {cut stk rai : Bool} {x0 x1 x2 : Value} {W W' W1 W2 : World} {o : FOut}
abbrev set3V (w : World) (g k : Nat) (y0 y1 y2 : Value) : World := ((w.setCell ⟨g, k, none⟩ y0).setCell ⟨g, k + 1, none⟩ y1).setCell ⟨g, k + 2, none⟩ y2
theorem set3_other {w : World} {g k : Nat} {y0 y1 y2 : Value} {j : Nat} (h0 : j ≠ k) (h1 : j ≠ k + 1) (h2 : j ≠ k + 2) : (set3V w g k y0 y1 y2).cell? ⟨g, j, none⟩ = w.cell? ⟨g, j, none⟩ := by
 unfold set3V
 rw [World.cell?_setCell_other _ _ _ _ (by simp <;> omega), World.cell?_setCell_other _ _ _ _ (by simp <;> omega), World.cell?_setCell_other _ _ _ _ (by simp <;> omega)]
theorem set3_self {w : World} {g k : Nat} {y0 y1 y2 u0 u1 u2 : Value} (h0 : w.cell? ⟨g, k, none⟩ = some u0) (h1 : w.cell? ⟨g, k + 1, none⟩ = some u1) (h2 : w.cell? ⟨g, k + 2, none⟩ = some u2) :
 (set3V w g k y0 y1 y2).cell? ⟨g, k, none⟩ = some y0 ∧ (set3V w g k y0 y1 y2).cell? ⟨g, k + 1, none⟩ = some y1 ∧ (set3V w g k y0 y1 y2).cell? ⟨g, k + 2, none⟩ = some y2 := by
 unfold set3V
 refine ⟨?_, ?_, ?_⟩
 · rw [World.cell?_setCell_other _ _ _ _ (by simp), World.cell?_setCell_other _ _ _ _ (by simp)]
   exact cell_same h0 _
 · rw [World.cell?_setCell_other _ _ _ _ (by simp)]
   exact cell_same ((World.cell?_setCell_other _ _ _ _ (by simp)).trans h1) _
 · exact cell_same ((World.cell?_setCell_other _ _ _ _ (by simp)).trans ((World.cell?_setCell_other _ _ _ _ (by simp)).trans h2)) _
theorem VRow.set_ {nf nc : Nat} {w1 : World} {ks : List PV} {xs : List Value} {g i : Nat} (hxs : RVals (PV3 X nf nc W) 3 ks xs) (hb : Below W.heap.size W w1) (hg : W.heap.size ≤ g) (hX : ¬ X g) (hcell : ∀ j u, xs[j]? = some u → w1.cell? ⟨g, 0 + j, none⟩ = some u) (hi : i < ks.length)
 {b : PV} {y0 y1 y2 : Value} (hv : VIn X nf nc W b y0 y1 y2) : VRow X nf nc (set3V w1 g (i * 3) y0 y1 y2) (some ⟨g, 0, none⟩) (ks.set i b) ∧ (∃ u0 u1 u2, w1.cell? ⟨g, i * 3, none⟩ = some u0 ∧ w1.cell? ⟨g, i * 3 + 1, none⟩ = some u1 ∧ w1.cell? ⟨g, i * 3 + 2, none⟩ = some u2) ∧ Below W.heap.size W (set3V w1 g (i * 3) y0 y1 y2) := by
 have hbs : Below W.heap.size W (set3V w1 g (i * 3) y0 y1 y2) := ((hb.setCell (p := ⟨g, i * 3, none⟩) hg y0).setCell (p := ⟨g, i * 3 + 1, none⟩) hg y1).setCell (p := ⟨g, i * 3 + 2, none⟩) hg y2
 have hkx : KpX X W (set3V w1 g (i * 3) y0 y1 y2) := KpX.below hbs
 have hc3 : ∀ j, (hj : j < ks.length) → ∃ z0 z1 z2, VIn X nf nc W ks[j] z0 z1 z2 ∧ xs[j * 3]? = some z0 ∧ xs[j * 3 + 1]? = some z1 ∧ xs[j * 3 + 2]? = some z2 := fun j hj => by
  obtain ⟨c, ⟨x0, x1, x2, rfl, hvj⟩, -, hjj⟩ := hxs.at_ j hj
  have e0 := hjj 0 (by omega)
  have e1 := hjj 1 (by omega)
  have e2 := hjj 2 (by omega)
  simp only [Nat.add_zero, List.getElem?_cons_zero, List.getElem?_cons_succ] at e0 e1 e2
  exact ⟨x0, x1, x2, hvj, e0, e1, e2⟩
 obtain ⟨z0, z1, z2, -, e0, e1, e2⟩ := hc3 i hi
 have q0 := hcell _ _ e0
 have q1 := hcell _ _ e1
 have q2 := hcell _ _ e2
 simp only [Nat.zero_add] at q0 q1 q2
 have hself := set3_self (y0 := y0) (y1 := y1) (y2 := y2) q0 q1 q2
 refine ⟨.inr ⟨g, 0, fun j => if j = i then y0 else xs[j * 3]?.getD default, fun j => if j = i then y1 else xs[j * 3 + 1]?.getD default, fun j => if j = i then y2 else xs[j * 3 + 2]?.getD default, rfl, hX, ?_, ?_, ?_, ?_⟩, ⟨_, _, _, q0, q1, q2⟩, hbs⟩
 all_goals
  intro j hj
  have hj' : j < ks.length := by simpa using hj
  by_cases hji : j = i
 · subst hji; simpa using hself.1
 · obtain ⟨t0, t1, t2, -, r0, r1, r2⟩ := hc3 j hj'
   simp only [hji, if_false, r0, Option.getD_some, Nat.zero_add]
   rw [set3_other (by omega) (by omega) (by omega)]
   have := hcell _ _ r0
   simpa using this
 · subst hji; simpa using hself.2.1
 · obtain ⟨t0, t1, t2, -, r0, r1, r2⟩ := hc3 j hj'
   simp only [hji, if_false, r1, Option.getD_some, Nat.zero_add]
   rw [set3_other (by omega) (by omega) (by omega)]
   have := hcell _ _ r1
   simpa [Nat.add_assoc] using this
 · subst hji; simpa using hself.2.2
 · obtain ⟨t0, t1, t2, -, r0, r1, r2⟩ := hc3 j hj'
   simp only [hji, if_false, r2, Option.getD_some, Nat.zero_add]
   rw [set3_other (by omega) (by omega) (by omega)]
   have := hcell _ _ r2
   simpa [Nat.add_assoc] using this
 · subst hji
   simp only [if_true, List.getElem_set_self]
   exact hv.step hkx (Nat.le_refl _) (Nat.le_refl _)
 · obtain ⟨t0, t1, t2, hvj, r0, r1, r2⟩ := hc3 j hj'
   simp only [hji, if_false, r0, r1, r2, Option.getD_some]
   rw [List.getElem_set_ne (Ne.symm hji)]
   exact hvj.step hkx (Nat.le_refl _) (Nat.le_refl _)
def setO (a b : PV) (s : FSt) : FOut := match a with | .ref i => (.val (.int 0), { s with cells := s.cells.set i b }) | _ => (.stuck, s)
theorem rprim_set (h : RGo X B mb cb fv inp fuel s W) (hX : ∀ k, X k → k < W.heap.size) {A : Option Addr} {l : List PV} {c : Nat} (hv : VRow X s.made.length s.cells.length W A l) (hl : 1 < l.length) :
 Calls Tryz.prog 72 #[.pointer (some ⟨mb, 0, none⟩), .int .i64 12, .slice A l.length c] W (ROut X B mb cb fv inp fuel s (setO l[0] l[1] s) W) := by
 generalize hV0 : (W.alloc (.cells #[.int .i64 0, .int .i64 0, .slice none 0 0] 46)) = V0
 obtain ⟨hb1, hbx, hg0, hsz⟩ := box_world h V0 hV0
 have hv0 := (hv.bx (b := W.heap.size) (by omega)).step (KpX.below hb1) (Nat.le_refl _) (Nat.le_refl _)
 obtain ⟨bb, oo, a0, a1, a2, rfl, c0, c1, c2, hsub⟩ := hv0.at_ (show 0 < l.length by omega)
 obtain ⟨bb', oo', b0, b1, b2, he, d0, d1, d2, hsub2⟩ := hv0.at_ hl
 simp only [Option.some.injEq, Addr.mk.injEq, and_true] at he
 obtain ⟨rfl, rfl⟩ := he
 simp only [Nat.zero_mul, Nat.add_zero, Nat.one_mul] at c0 c1 c2 d0 d1 d2
 have hX0 : ∀ k, Bx X W.heap.size k → k < V0.heap.size := fun k hk => by
  rcases hk with hk | hk
  · have := hX k hk; omega
  · omega
 have HS := Lib.hid ((rstop_any hg0).mono fun e w' hp => ROut.box (W := W) (b := W.heap.size) h.hX h.hBW (own_lt h) (Nat.le_refl _) hbx (Stp.below hb1 h.hBW) ⟨Nat.le_refl _, Nat.le_refl _⟩ (ROut.stop hp))
 obtain ⟨k1, n1, A1, l1, d1', rfl, rfl, rfl, hr, hnr, -⟩ := hsub.one_
 obtain ⟨o, ho⟩ : ∃ o, setO l[0] l[1] s = o := ⟨_, rfl⟩
 rw [ho]
 have hll : (0 : Int) < (l.length : Int) := by omega
 have hll1 : (1 : Int) < (l.length : Int) := by omega
 by_cases hk : k1 = 4
 rotate_left
 · obtain rfl : o = (.stuck, s) := by
    rw [← ho]
    have := hnr hk
    unfold setO
    split
    · rename_i i hi; exact absurd hi (this i)
    · rfl
   have hk4 : (k1 == 4) = false := by simpa using hk
   have hk5 : (k1 != 4) = true := by simpa using hk
   clear h hb1 hbx hg0 hsz hv hv0 hsub hr hnr ho hk hX hX0 hsub2 hl
   generalize l.length = kl at *
   go_enter Tryz.func72, Tryz.ntmps72
   go_wp2_with (go_at_call 49; refine HS.out.mono ?_; rintro e w' ⟨k, n, A, l, d, rfl, ⟨f0, f1, f2, ff⟩, hR⟩; have HR := Lib.hid hR; clear hR)
   exact bodyPost_ret (v := .agg #[.int .i64 k, .int .i64 n, .slice A l d]) (by simp [results, Tryz.results72, go_sem, f0, f1, f2]) rfl HR.out
 subst hk
 clear HS
 obtain ⟨i, hi, hic, rfl⟩ := hr rfl
 rw [hi] at ho
 simp only [setO] at ho
 obtain ⟨k2, n2, A2, l2, d2', rfl, rfl, rfl⟩ := hsub2.shape
 obtain ⟨Af, cf, xs, hcb, hxs, hrow, -⟩ := hg0.celL
 have hone := hxs.one (fun a c h => h.one)
 have hlen := hxs.len
 have hfb := h.fuelB
 have hlb := h.limB
 have hcel := hg0.celB
 have hnb : s.cells.length ≤ 1000000000 := by omega
 obtain ⟨inf0, hinf, hz0, hz1, hz2⟩ := info_parts Tryz.infoV
 have hmf := hg0.cells.2.2.2.2.2.2.2.2.2.1
 have hmlt : mb < V0.heap.size := (own_lt hg0).1
 have hblt : bb < V0.heap.size := lt_of_cell c1
 have HP := Lib.hid (fun (w1 : World) (g cap : Nat) (hb : Below V0.heap.size V0 w1) (hg : V0.heap.size ≤ g) (hcap : s.cells.length ≤ cap) (hcell : ∀ j u, xs[j]? = some u → w1.cell? ⟨g, 0 + j, none⟩ = some u) =>
  (show (∃ u0 u1 u2, w1.cell? ⟨g, i * 3, none⟩ = some u0 ∧ w1.cell? ⟨g, i * 3 + 1, none⟩ = some u1 ∧ w1.cell? ⟨g, i * 3 + 2, none⟩ = some u2) ∧ Below V0.heap.size V0 (set3V w1 g (i * 3) (.int .i64 k2) (.int .i64 n2) (.slice A2 l2 d2')) ∧ ∀ (V V' : World), Below (set3V w1 g (i * 3) (.int .i64 k2) (.int .i64 n2) (.slice A2 l2 d2')).heap.size (set3V w1 g (i * 3) (.int .i64 k2) (.int .i64 n2) (.slice A2 l2 d2')) V →
   Below (V.setCell ⟨mb, 5, none⟩ (.slice (some ⟨g, 0, none⟩) s.cells.length cap)).heap.size (V.setCell ⟨mb, 5, none⟩ (.slice (some ⟨g, 0, none⟩) s.cells.length cap)) V' →
   (V'.cell? ⟨W.heap.size, 0, none⟩ = some (.int .i64 0) ∧ V'.cell? ⟨W.heap.size, 1, none⟩ = some (.int .i64 0) ∧ V'.cell? ⟨W.heap.size, 2, none⟩ = some (.slice none 0 0) ∧ (∀ i, V'.frozen? ⟨W.heap.size, i, none⟩ = false)) ∧
   ROut X B mb cb fv inp fuel s o W (.returned (.agg #[.int .i64 1, .int .i64 0, .slice none 0 0])) (((V'.setCell ⟨W.heap.size, 0, none⟩ (.int .i64 1)).setCell ⟨W.heap.size, 1, none⟩ (.int .i64 0)).setCell ⟨W.heap.size, 2, none⟩ (.slice none 0 0)) from by
   obtain ⟨r1, r2, r3⟩ := VRow.set_ hxs hb hg (fun hx => by have := hX0 g hx; omega) hcell hic hsub2
   refine ⟨r2, r3, fun V V' hV hV' => ?_⟩
   have hle : V0.heap.size ≤ (set3V w1 g (i * 3) (.int .i64 k2) (.int .i64 n2) (.slice A2 l2 d2')).heap.size := r3.size
   have hbV : Below V0.heap.size V0 V := r3.trans (hV.mono hle)
   have hcs : (s.cells.set i l[1]).length = s.cells.length := by simp
   have r5 := hg0.celR hbV (l := s.cells.set i l[1]) (A := some ⟨g, 0, none⟩) (cap := cap) (by omega) (by omega) (by rw [hcs]; exact hcel) (by rw [hcs]; exact r1.step (KpX.below hV) (Nat.le_refl _) (Nat.le_refl _))
   rw [hcs] at r5
   obtain ⟨r6, r7⟩ := r5
   rw [← ho]
   exact ROut.box' (X := X) (fuel := fuel) (s1 := s) (o := (.val (.int 0), { s with cells := s.cells.set i l[1] })) (W := W) (W1 := V0) (W2 := V') (b := W.heap.size) h.hX h.hBW (own_lt h) (Nat.le_refl _) hbx (Stp.below hb1 h.hBW) ⟨Nat.le_refl _, Nat.le_refl _⟩
    ⟨r7.trans (Stp.below hV' r6.hBW), ⟨Nat.le_refl _, by simp⟩, _, _, _, _, _, rfl, r6.below hV', .int _⟩))
 have hn0 : 0 < s.cells.length := by omega
 have hi0 : (0 : Int) ≤ (i : Int) := by omega
 have hil : (i : Int) < (s.cells.length : Int) := by omega
 clear h hX hxs hlb hfb hg0 hX0 hb1 hbx hv hv0 hsub hr hnr hi hsub2 hcel
 have hic' : i < s.cells.length := hic
 clear ho
 have hl' : 1 < l.length := hl
 generalize hcl : s.cells.length = n at *
 clear hcl hic
 have HR := Lib.hid (fun (V : World) (hb : Below V0.heap.size V0 V) => hrow.below hb)
 have HF := Lib.hid (fun (V : World) (hb : Below V0.heap.size V0 V) => (show V.frozen? ⟨mb, 5, none⟩ = false from (hb.frozen (p := ⟨mb, 5, none⟩) hmlt).trans (hmf 5)))
 have HS := Lib.hid (fun (V : World) (hb : Below V0.heap.size V0 V) => (show V.cell? ⟨bb, oo + 1, none⟩ = some (.int .i64 (i : Int)) ∧ V.cell? ⟨mb, 5, none⟩ = some (.slice Af n cf) ∧ V.cell? ⟨bb, oo + 3, none⟩ = some (.int .i64 k2) ∧ V.cell? ⟨bb, oo + 3 + 1, none⟩ = some (.int .i64 n2) ∧ V.cell? ⟨bb, oo + 3 + 2, none⟩ = some (.slice A2 l2 d2') from
  ⟨cell_behind hb c1, cell_behind hb hcb, cell_behind hb d0, cell_behind hb d1, cell_behind hb d2⟩))
 have HOa := Lib.hid (own_empty V0 (Nat.le_refl _) 46 3)
 have HBa := Lib.hid (below_al1 V0 (.cells #[] 46))
 have hll' : (0 : Int) < (l.length : Int) := hll
 generalize l.length = kl at *
 clear hrow hmf hl
 go_enter Tryz.func72, Tryz.ntmps72
 go_wp2_with (at_builtin; refine wpList_append_row _ rfl _ _ 43 rfl V0.heap.size 46 inf0 _ 3 40 Tryz.underlying43 hinf hz0 hz1 hz2 rfl (by decide) _ 0 [] rfl HOa.out Af n cf xs rfl hlen (HR.out _ HBa.out) hone (by simp only [maxLen]; omega) (by omega) HBa.out.size ?_; intro v1 w1 hown1 hgr1 hat1; have HB1 := Lib.hid (grown_below HBa.out hgr1 (own_ge HOa.out)); obtain ⟨g, cap, rfl, hg, hcap, hgf, hgl, hcell⟩ := own_cell (own_size (show n = 0 + n by omega) hown1) hn0; clear hown1 hat1 hgr1)
 obtain ⟨⟨u0, u1, u2, q0, q1, q2⟩, hbs, hQ⟩ := HP.out w1 g cap HB1.out hg hcap hcell
 have HQ := Lib.hid hQ
 obtain ⟨i1, i2, i3, i4, i5⟩ := HS.out w1 HB1.out
 have HBS := Lib.hid hbs
 clear hQ hcell hbs HP
 go_region
 all_goals
  have HQ2 := Lib.hid (fun V' hb' => HQ.out (set3V w1 g (i * 3) (.int .i64 k2) (.int .i64 n2) (.slice A2 l2 d2')).drew V' (Below.refl _ _).drew hb')
  obtain ⟨-, j2, -⟩ := HS.out _ HBS.out.drew
  have kf := HF.out _ HBS.out.drew
  clear i1 i2 i3 i4 i5 q0 q1 q2 HBS HQ
  simp only [set3V] at HQ2 j2 kf
  generalize (((w1.setCell ⟨g, i * 3, none⟩ (.int .i64 k2)).setCell ⟨g, i * 3 + 1, none⟩ (.int .i64 n2)).setCell ⟨g, i * 3 + 2, none⟩ (.slice A2 l2 d2')).drew = V at *
  go_wp2_with (go_at_call 73; refine (vint_any _ _).mono ?_; rintro e w5 ⟨rfl, hbi⟩; obtain ⟨⟨f0, f1, f2, ff⟩, hR⟩ := HQ2.out _ hbi; have HRR := Lib.hid hR; clear hR)
  exact bodyPost_ret (v := .agg #[.int .i64 1, .int .i64 0, .slice none 0 0]) (by simp [results, Tryz.results72, go_sem, f0, f1, f2]) rfl HRR.out
end
end Go.Proofs.YtnobggabjpcbfaaGreat
namespace Go.Proofs.YtnobggabjpcbfaaGreat
open Go.RowKit
section
variable {X Y : Nat → Prop} {B mb cb : Nat} {fv : Value} {inp : List Int} {fuel : FL} {s s1 : FSt} {cut stk rai : Bool} {x0 x1 x2 : Value} {W W' W1 W2 : World} {o : FOut}
theorem ROut.lim_ {e : Ending} {l : Nat} (h : ROut X B mb cb fv inp fuel s o W e W') (h1 : fuel.lim ≤ l) (h2 : l ≤ fuel.f) : ROut X B mb cb fv inp ⟨fuel.f, l⟩ s o W e W' := by
 obtain ⟨a, b, k, n, A, l', d, rfl, ho⟩ := h
 refine ⟨a, b, k, n, A, l', d, rfl, ?_⟩
 obtain ⟨r, s'⟩ := o
 cases r with
 | val v => exact ⟨ho.1.lim_ h1 h2, ho.2⟩
 | raised v => obtain ⟨y0, y1, y2, g1, g2, g3⟩ := ho; exact ⟨y0, y1, y2, g1.lim_ h1 h2, g2, g3⟩
 | stuck => obtain ⟨md, ho⟩ := ho; exact ⟨md, RIn.lim_ ho h1 h2⟩
 | cut => exact RIn.lim_ ho h1 h2
theorem rprim_any (h : RGo X B mb cb fv inp fuel s W) (hlim : fuel.lim < fuel.f) (hX : ∀ k, X k → k < W.heap.size) {A : Option Addr} {l : List PV} {c : Nat} (hv : VRow X s.made.length s.cells.length W A l) (funs : List FFun) (rec : Anf → PEnv → FSt → FOut) {p : Int} (hp1 : 1 ≤ p) (hp2 : p ≤ 15) (hl : l.length = if twoF p then 2 else 1) :
 Calls Tryz.prog 72 #[.pointer (some ⟨mb, 0, none⟩), .int .i64 p, .slice A l.length c] W (ROut X B mb cb fv inp fuel.up s (primF funs inp rec p l s) W) := by
 have hu : RGo X B mb cb fv inp fuel.up s W := h.lim_ (l := fuel.lim + 1) (by omega) (by omega)
 have ha := h.askB
 have hb := h.outB
 have hc := h.celB
 by_cases h9 : p ≤ 9
 · have hl2 : l.length = 2 := by rw [hl, if_pos (by simp [twoF]; omega)]
   match l, hl2, hv with
   | [a, b], _, hv =>
    refine (rprim_do hu hp1 h9 hv (by simp)).mono fun e w' hp => ?_
    have e1 : primF funs inp rec p [a, b] s = arithO p a b s := by
     unfold primF arithO
     simp only [List.getElem?_cons_zero, List.getElem?_cons_succ, Option.getD_some]
     rw [if_neg (by omega), if_neg (by omega), if_neg (by omega), if_neg (by omega), if_neg (by omega), if_neg (by omega), if_neg (by omega)]
     cases a <;> cases b <;> rfl
    rw [e1]
    exact hp
 by_cases h12 : p = 12
 · subst h12
   have hl2 : l.length = 2 := by rw [hl, if_pos (by decide)]
   match l, hl2, hv with
   | [a, b], _, hv =>
    refine (rprim_set hu hX hv (by simp)).mono fun e w' hp => ?_
    cases a <;> exact hp
 have hl1 : l.length = 1 := by rw [hl, if_neg (by simp [twoF]; omega)]
 match l, hl1, hv with
 | [a], _, hv =>
  have hcase : p = 10 ∨ p = 11 ∨ p = 13 ∨ p = 14 ∨ p = 15 := by omega
  rcases hcase with rfl | rfl | rfl | rfl | rfl
  · exact rprim_ref hu hX (by show _ ≤ fuel.lim + 1; omega) hv (by simp)
  · refine (rprim_get hu hv (by simp)).mono fun e w' hp => ?_
    cases a <;> exact hp
  · refine (rprim_print hu hX (by show _ ≤ fuel.lim + 1; omega) hv (by simp)).mono fun e w' hp => ?_
    cases a <;> exact hp
  · exact rprim_read h hlim _
  · refine (rprim_raise hu hv (by simp)).mono fun e w' hp => ?_
    exact hp
end
end Go.Proofs.YtnobggabjpcbfaaGreat
namespace Go.Proofs.YtnobggabjpcbfaaGreat
open Go.RowKit
section
variable {X Y : Nat → Prop} {B mb cb : Nat} {fv : Value} {inp : List Int} {fuel : FL} {s s1 : FSt} {cut stk rai : Bool} {x0 x1 x2 : Value} {W W' W1 W2 : World} {o : FOut}
theorem RIn.made_ (h : RIn X B mb cb fv inp fuel s cut stk rai x0 x1 x2 W) (hX : ∀ k, X k → k < W.heap.size) (hlim : s.made.length + 1 + 1000 * s.left ≤ 1000 * fuel.lim) {f : Int × List PV} {xs c : List Value} {v : Value} {V1 : World} (hb : Below W.heap.size W V1)
 (hxs : RVals (PC2 X s.made.length s.cells.length W) 2 s.made xs) (hc : PC2 X s.made.length s.cells.length W f c) (hown : V1.ownsRow W.heap.size 132 2 v (s.made.length + 1) (xs ++ c)) :
 RIn X B mb cb fv inp fuel { s with made := s.made ++ [f] } cut stk rai x0 x1 x2 (V1.setCell ⟨cb, 2, none⟩ v) ∧ Stp B mb cb W (V1.setCell ⟨cb, 2, none⟩ v) := by
 obtain ⟨g, cap, rfl, hg, hcap, -, hgl, hcell⟩ := own_cell hown (by omega)
 have hlen : (s.made ++ [f]).length = s.made.length + 1 := by simp
 have hh : RVals (PC2 X s.made.length s.cells.length W) 2 (s.made ++ [f]) (xs ++ c) := hxs.app (.single hc (by obtain ⟨_, rfl, _⟩ := hc; rfl))
 have := h.fnsR hb (l := s.made ++ [f]) (A := some ⟨g, 0, none⟩) (cap := cap) (by simp) (by rw [hlen]; exact hcap) (by rw [hlen]; exact hlim)
  (CRow.mk_ (xs := xs ++ c) (hh.mono fun a c h => h.step (KpX.below hb) (by simp) (Nat.le_refl _)) (fun hx => by have := hX g hx; omega) hcell)
 rw [hlen] at this
 exact this
theorem rclose_any (h : RGo X B mb cb fv inp fuel s W) (hX : ∀ k, X k → k < W.heap.size) (hlim : s.made.length + 1 + 1000 * s.left ≤ 1000 * fuel.lim) {f : Int × List PV} {g : Value} (he : HIn X s.made.length s.cells.length W f.2 g) :
 Calls Tryz.prog 68 #[.pointer (some ⟨cb, 0, none⟩), .agg #[.int .i64 f.1, g]] W (ROut X B mb cb fv inp fuel s (.val (.fn s.made.length), { s with made := s.made ++ [f] }) W) := by
 obtain ⟨Ah, hcp, rfl, hh1, hh2, hrow0⟩ := he
 have hb0 := below_al2 W (.cells #[.int .i64 f.1, .slice Ah f.2.length hcp] 132) (.cells #[.int .i64 0, .int .i64 0, .slice none 0 0] 46)
 have hbox : (W.alloc (.cells #[.int .i64 f.1, .slice Ah f.2.length hcp] 132)).heap[W.heap.size]? = _ := new1 _ _
 replace hbox := ((below_al1 _ (.cells #[.int .i64 0, .int .i64 0, .slice none 0 0] 46)).block W.heap.size (by simp)).trans hbox
 have hbx : ((W.alloc (.cells #[.int .i64 f.1, .slice Ah f.2.length hcp] 132)).alloc (.cells #[.int .i64 0, .int .i64 0, .slice none 0 0] 46)).heap[W.heap.size + 1]? = some (.cells #[.int .i64 0, .int .i64 0, .slice none 0 0] 46 (0, 0)) := new2 _ _ _
 have hsz : W.heap.size + 1 < ((W.alloc (.cells #[.int .i64 f.1, .slice Ah f.2.length hcp] 132)).alloc (.cells #[.int .i64 0, .int .i64 0, .slice none 0 0] 46)).heap.size := by simp
 generalize hV0 : ((W.alloc (.cells #[.int .i64 f.1, .slice Ah f.2.length hcp] 132)).alloc (.cells #[.int .i64 0, .int .i64 0, .slice none 0 0] 46)) = V0 at *
 have hg0 : RGo (Bx X (W.heap.size + 1)) B mb cb fv inp fuel s V0 := (RIn.bx h (by omega)).below hb0
 have hX0 : ∀ k, Bx X (W.heap.size + 1) k → k < V0.heap.size := fun k hk => by
  rcases hk with hk | hk
  · have := hX k hk; omega
  · omega
 obtain ⟨Af, cf, xs, hcb, hxs, hrow⟩ := hg0.fnsL
 have hPF : PC2 (Bx X (W.heap.size + 1)) s.made.length s.cells.length V0 f [.int .i64 f.1, .slice Ah f.2.length hcp] :=
  ⟨_, rfl, Ah, hcp, rfl, hh1, hh2, (hrow0.bx (b := W.heap.size + 1) (by omega)).step (KpX.below hb0) (Nat.le_refl _) (Nat.le_refl _)⟩
 have hlt := own_lt h
 have HP := Lib.hid (fun (V : World) (v : Value) (hb : Below V0.heap.size V0 V) (hown : V.ownsRow V0.heap.size 132 2 v (s.made.length + 1) (xs ++ [.int .i64 f.1, .slice Ah f.2.length hcp])) =>
  ROut.box' (X := X) (fuel := fuel) (s1 := s) (o := (.val (.fn s.made.length), { s with made := s.made ++ [f] })) (W := W) (W1 := V0) (W2 := (V.setCell ⟨cb, 2, none⟩ v)) (b := W.heap.size + 1) h.hX h.hBW (own_lt h) (by omega) hbx (Stp.below hb0 h.hBW) ⟨Nat.le_refl _, Nat.le_refl _⟩
   (show ROut (Bx X (W.heap.size + 1)) B mb cb fv inp fuel s (.val (.fn s.made.length), { s with made := s.made ++ [f] }) V0 (.returned (.agg #[.int .i64 3, .int .i64 (s.made.length : Int), .slice none 0 0])) (V.setCell ⟨cb, 2, none⟩ v) from by
    obtain ⟨r1, r2⟩ := hg0.made_ hX0 hlim hb hxs hPF hown
    exact ⟨r2, ⟨by simp, Nat.le_refl _⟩, _, _, _, _, _, rfl, r1, .fn _ (by simp)⟩))
 have hone := hxs.one (fun a c h => h.one)
 have hlen := hxs.len
 have hfb := h.fuelB
 have hlb := h.limB
 have hn : s.made.length ≤ 1000000000 := by omega
 obtain ⟨inf0, hinf, hz0, hz1, hz2⟩ := info_parts Tryz.infoClo
 obtain ⟨o, ho⟩ : ∃ o : FOut, (.val (.fn s.made.length), { s with made := s.made ++ [f] }) = o := ⟨_, rfl⟩
 rw [ho] at HP ⊢
 have hlt : mb < W.heap.size ∧ cb < W.heap.size := hlt
 clear h hX hlim hrow0 hh1 hh2 hxs hPF hlb hfb hg0 hX0 ho hb0 hbx
 generalize f.1 = fp at *
 generalize f.2.length = kl at *
 generalize s.made.length = n at *
 have HS := Lib.hid (fun (V : World) (hb : Below V0.heap.size V0 V) => (show V.cell? ⟨cb, 2, none⟩ = some (.slice Af n cf) ∧ V.cell? ⟨W.heap.size, 0, none⟩ = some (.int .i64 fp) ∧ V.cell? ⟨W.heap.size, 1, none⟩ = some (.slice Ah kl hcp) from by
  have e1 := (hb.block cb (by omega)).trans hcb
  have e2 := (hb.block W.heap.size (by omega)).trans hbox
  exact ⟨by simp [World.cell?, e1], by simp [World.cell?, e2], by simp [World.cell?, e2]⟩))
 have HR := Lib.hid (fun (V : World) (hb : Below V0.heap.size V0 V) => hrow.below hb)
 have HB0 := Lib.hid (show Below V0.heap.size V0 V0 from (Below.refl _ _))
 have HF := Lib.hid (fun (V : World) (hb : Below V0.heap.size V0 V) => (show V.frozen? ⟨cb, 2, none⟩ = false from by
  have e1 := (hb.block cb (by omega)).trans hcb
  simp [World.frozen?, e1]))
 go_enter Tryz.func68, Tryz.ntmps68
 go_wp2_with fail
 clear hbox hV0 hcb hrow
 have HBa := Lib.hid (below_al1 V0 (.cells #[] 132)).drew
 have HBb := Lib.hid (below_al2 V0 (.cells #[] 132) (.cells #[.int .i64 fp, .slice Ah kl hcp] 132)).drew
 have HBc := Lib.hid (below_al2 V0 (.cells #[.int .i64 fp, .slice Ah kl hcp] 132) (.cells #[] 132)).drew
 have HBd := Lib.hid (below_al1 V0 (.cells #[.int .i64 fp, .slice Ah kl hcp] 132)).drew
 have HOa := Lib.hid (World.ownsRow.drew (own_empty V0 (Nat.le_refl _) 132 2))
 have HOb := Lib.hid (World.ownsRow.drew (World.ownsRow.alloc (own_empty V0 (Nat.le_refl _) 132 2) (.cells #[.int .i64 fp, .slice Ah kl hcp] 132)))
 have HOc := Lib.hid (show (((V0.alloc (.cells #[.int .i64 fp, .slice Ah kl hcp] 132)).alloc (.cells #[] 132)).drew).ownsRow V0.heap.size 132 2 (.slice (some ⟨V0.heap.size + 1, 0, none⟩) 0 0) 0 [] from by
  have e := World.ownsRow.drew (own_empty (V0.alloc (.cells #[.int .i64 fp, .slice Ah kl hcp] 132)) (base := V0.heap.size) (by simp) 132 2)
  rwa [World.size_alloc] at e)
 have HGb := Lib.hid (fun (w1 : World) (hg : (((V0.alloc (.cells #[] 132)).alloc (.cells #[.int .i64 fp, .slice Ah kl hcp] 132)).drew).grownBy w1 (Value.ownBlock (.slice (some ⟨V0.heap.size, 0, none⟩) 0 0))) => rowOf_block ((hg.block (V0.heap.size + 1) (by show V0.heap.size + 1 < ((V0.alloc (.cells #[] 132)).alloc (.cells #[.int .i64 fp, .slice Ah kl hcp] 132)).heap.size; simp) (by simp [Value.ownBlock])).trans (new2 V0 _ _)))
 have HGc := Lib.hid (fun (w1 : World) (hg : (((V0.alloc (.cells #[.int .i64 fp, .slice Ah kl hcp] 132)).alloc (.cells #[] 132)).drew).grownBy w1 (Value.ownBlock (.slice (some ⟨V0.heap.size + 1, 0, none⟩) 0 0))) => rowOf_block ((hg.block V0.heap.size  (by show V0.heap.size < ((V0.alloc (.cells #[.int .i64 fp, .slice Ah kl hcp] 132)).alloc (.cells #[] 132)).heap.size; simp; omega) (by simp [Value.ownBlock])).trans (((below_al1 _ (.cells #[] 132)).block V0.heap.size (by simp)).trans (new1 V0 (.cells #[.int .i64 fp, .slice Ah kl hcp] 132)))))
 have hone2 : ∀ u ∈ ([.int .i64 fp, .slice Ah kl hcp] : List Value), u.oneCell' = true := by simp [Value.oneCell']
 obtain ⟨h0, h1, h2⟩ := HS.out V0 HB0.out
 have k0 := HF.out V0 HB0.out
 have hc0 : cb < V0.heap.size := by omega
 have hw0 : W.heap.size < V0.heap.size := by omega
 have hw1 : IntKind.i64.wrap (n : Int) = (n : Int) := by rw [IntKind.wrap_i64]; omega
 have hw2 : IntKind.i64.wrap ((n : Int) + 1 - 1) = (n : Int) := by rw [IntKind.wrap_i64]; omega
 go_region_law ((first
  | (rw [if_pos (by rfl)]; refine wp_append_row _ _ _ 77 rfl V0.heap.size 132 inf0 _ 2 32 Tryz.underlying77 hinf hz0 hz1 hz2 rfl (by decide) _ 0 [] rfl HOa.out Af n cf xs rfl hlen (HR.out _ HBa.out) hone (by simp only [maxLen]; omega) (by omega) (Nat.le_trans (Nat.le_refl _) HBa.out.size) ?_; intro v1 w1 hown1 hgr1 hat1; have HB1 := Lib.hid (grown_below HBa.out hgr1 (own_ge HOa.out)); have hown1' := own_size (show n = 0 + n by omega) hown1; clear hown1 hat1; obtain ⟨A1, n1, c1, rfl⟩ := own_shape hown1'; obtain ⟨i0, i1, i2⟩ := HS.out w1 HB1.out; have hc1 : cb < w1.heap.size := Nat.lt_of_lt_of_le hc0 HB1.out.size; have hw1 : W.heap.size < w1.heap.size := Nat.lt_of_lt_of_le hw0 HB1.out.size)
  | (rw [if_pos (by rfl)]; refine wp_append_row _ _ _ 77 rfl V0.heap.size 132 inf0 _ 2 32 Tryz.underlying77 hinf hz0 hz1 hz2 rfl (by decide) _ 0 [] rfl HOb.out Af n cf xs rfl hlen (HR.out _ HBb.out) hone (by simp only [maxLen]; omega) (by omega) (Nat.le_trans (Nat.le_refl _) HBb.out.size) ?_; intro v1 w1 hown1 hgr1 hat1; have HB1 := Lib.hid (grown_below HBb.out hgr1 (own_ge HOb.out)); have HF1 := Lib.hid (HGb.out _ hgr1); have hown1' := own_size (show n = 0 + n by omega) hown1; clear hown1 hat1; obtain ⟨A1, n1, c1, rfl⟩ := own_shape hown1'; obtain ⟨i0, i1, i2⟩ := HS.out w1 HB1.out; have hc1 : cb < w1.heap.size := Nat.lt_of_lt_of_le hc0 HB1.out.size; have hw1 : W.heap.size < w1.heap.size := Nat.lt_of_lt_of_le hw0 HB1.out.size)
  | (rw [if_pos (by rfl)]; refine wp_append_row _ _ _ 77 rfl V0.heap.size 132 inf0 _ 2 32 Tryz.underlying77 hinf hz0 hz1 hz2 rfl (by decide) _ 0 [] rfl HOc.out Af n cf xs rfl hlen (HR.out _ HBc.out) hone (by simp only [maxLen]; omega) (by omega) (Nat.le_trans (Nat.le_refl _) HBc.out.size) ?_; intro v1 w1 hown1 hgr1 hat1; have HB1 := Lib.hid (grown_below HBc.out hgr1 (own_ge HOc.out)); have HF1 := Lib.hid (HGc.out _ hgr1); have hown1' := own_size (show n = 0 + n by omega) hown1; clear hown1 hat1; obtain ⟨A1, n1, c1, rfl⟩ := own_shape hown1'; obtain ⟨i0, i1, i2⟩ := HS.out w1 HB1.out; have hc1 : cb < w1.heap.size := Nat.lt_of_lt_of_le hc0 HB1.out.size; have hw1 : W.heap.size < w1.heap.size := Nat.lt_of_lt_of_le hw0 HB1.out.size)
  | (rw [if_pos (by rfl)]; refine wp_append_row _ _ _ 77 rfl V0.heap.size 132 inf0 _ 2 32 Tryz.underlying77 hinf hz0 hz1 hz2 rfl (by decide) _ n xs rfl (World.ownsRow.alloc hown1' _) _ 1 1 [.int .i64 fp, .slice Ah kl hcp] rfl rfl (rowOf_block (new1 w1 (.cells #[.int .i64 fp, .slice Ah kl hcp] 132))) hone2 (by simp only [maxLen]; omega) (by omega) (HB1.out.alloc HB1.out.size (.cells #[.int .i64 fp, .slice Ah kl hcp] 132)).size ?_; intro v2 w2 hown2 hgr2 hat2; have HB2 := Lib.hid (grown_below (HB1.out.alloc HB1.out.size (.cells #[.int .i64 fp, .slice Ah kl hcp] 132)) hgr2 (own_ge hown1')); clear hat2; obtain ⟨g2, c2, rfl, -⟩ := own_cell hown2 (by omega); have kf := HF.out w2 HB2.out; have kc := (HS.out w2 HB2.out).1; have HOW := Lib.hid hown2; clear hown2 hgr2)
  | (rw [if_pos (by rfl)]; refine wp_append_row _ _ _ 77 rfl V0.heap.size 132 inf0 _ 2 32 Tryz.underlying77 hinf hz0 hz1 hz2 rfl (by decide) _ n xs rfl (World.ownsRow.drew hown1') _ 1 1 [.int .i64 fp, .slice Ah kl hcp] rfl rfl HF1.out hone2 (by simp only [maxLen]; omega) (by omega) HB1.out.drew.size ?_; intro v2 w2 hown2 hgr2 hat2; have HB2 := Lib.hid (grown_below HB1.out.drew hgr2 (own_ge hown1')); clear hat2; obtain ⟨g2, c2, rfl, -⟩ := own_cell hown2 (by omega); have kf := HF.out w2 HB2.out; have kc := (HS.out w2 HB2.out).1; have HOW := Lib.hid hown2; clear hown2 hgr2)
  | (rw [if_pos (by rfl)]; refine wp_append_row _ _ _ 77 rfl V0.heap.size 132 inf0 _ 2 32 Tryz.underlying77 hinf hz0 hz1 hz2 rfl (by decide) _ n xs rfl hown1' _ 1 1 [.int .i64 fp, .slice Ah kl hcp] rfl rfl HF1.out hone2 (by simp only [maxLen]; omega) (by omega) HB1.out.size ?_; intro v2 w2 hown2 hgr2 hat2; have HB2 := Lib.hid (grown_below HB1.out hgr2 (own_ge hown1')); clear hat2; obtain ⟨g2, c2, rfl, -⟩ := own_cell hown2 (by omega); have kf := HF.out w2 HB2.out; have kc := (HS.out w2 HB2.out).1; have HOW := Lib.hid hown2; clear hown2 hgr2)))
 all_goals
  obtain ⟨⟨f0, f1, f2, ff⟩, hR⟩ := HP.out _ _ HB2.out HOW.out
  have HRR := Lib.hid hR
  have hcc : (w2.setCell ⟨cb, 2, none⟩ (.slice (some ⟨g2, 0, none⟩) (n + 1) c2)).cell? ⟨cb, 2, none⟩ = some (.slice (some ⟨g2, 0, none⟩) (n + 1) c2) := cell_same kc _
  clear hR kf kc HB1 HB2 HOW hown1'
  generalize (w2.setCell ⟨cb, 2, none⟩ (.slice (some ⟨g2, 0, none⟩) (n + 1) c2)) = V' at *
  go_wp2_with fail
  exact bodyPost_ret (v := .agg #[.int .i64 3, .int .i64 (n : Int), .slice none 0 0]) (by simp [results, Tryz.results68, go_sem, f0, f1, f2]) rfl HRR.out
end
end Go.Proofs.YtnobggabjpcbfaaGreat
