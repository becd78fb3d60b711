/-
  1 texts of this seat in one: V18.
-/
import Derived.Test.YtnolhcdfknjncaaDoorQW
/-
  The document's run: a cell that is set.
-/
set_option linter.unusedVariables false
set_option linter.unusedSimpArgs false
namespace Go.Proofs.YtnolhcdfknjncaaDoor
open Go.RowKit

section
variable {P : Program} (w : World)
theorem wpList_append_row {ops : Array Oper} {rest : List Oper} {o : Oper} {a : Act} {Q : Exit → Act → World → Prop} (hgd : o.guard = none) (s x : Operand) (t : TypeId)
    (ho : o.op = .call { callee := .builtin .append, args := #[s, x], argTypes := #[t, t] })
    (base : Nat) (e : TypeId) (i : TypeInfo) (z : Value) (size bytes : Nat) (ht : P.underlying t = some (.slice e)) (hi : P.info? e = some i) (hz : i.zero = some z)
    (hsize : i.size = size) (hby : i.bytes = bytes) (hzs : z.cells.size = size) (hsz : 0 < size)
    (v : Value) (n : Nat) (xs : List Value) (hs : a.eval s = v) (hown : w.ownsRow base e size v n xs)
    (A : Option Addr) (m c : Nat) (news : List Value) (hx : a.eval x = .slice A m c) (hl : news.length = m * size) (hnews : RowOf w A news) (h1 : ∀ u ∈ news, u.oneCell' = true)
    (h63 : n + m ≤ maxLen) (hbytes : (n + m) * bytes ≤ 140737488355328) (hbase : base ≤ w.heap.size)
    (h : ∀ v' w', w'.ownsRow base e size v' (n + m) (xs ++ news) → w.grownBy w' v.ownBlock → (v'.ownBlock = v.ownBlock ∨ v'.ownBlock = some w.heap.size) → wpList P ops Q rest (a.put o.dst v') w') : wpList P ops Q (o :: rest) a w :=
  wpList_plain hgd fun K hK => wp_append_row w s x t ho base e i z size bytes ht hi hz hsize hby hzs hsz v n xs hs hown A m c news hx hl hnews h1 h63 hbytes hbase (fun v' w' h1 h2 h3 => hK _ _ (h v' w' h1 h2 h3))
end
section
variable {X Y : Nat → Prop} {B mb cb : Nat} {inp : List Int} {fuel : FL} {s s1 : St} {cut stk rai : Bool} {x0 x1 x2 : Value} {W W' W1 W2 : World} {o : Out}
abbrev set3 (w : World) (g k : Nat) (y0 y1 y2 : Value) : World := ((w.setCell ⟨g, k, none⟩ y0).setCell ⟨g, k + 1, none⟩ y1).setCell ⟨g, k + 2, none⟩ y2
theorem set3_other {w : World} {g k : Nat} {y0 y1 y2 : Value} {j : Nat} (h0 : j ≠ k) (h1 : j ≠ k + 1) (h2 : j ≠ k + 2) : (set3 w g k y0 y1 y2).cell? ⟨g, j, none⟩ = w.cell? ⟨g, j, none⟩ := by
  unfold set3
  rw [World.cell?_setCell_other _ _ _ _ (by simp <;> omega), World.cell?_setCell_other _ _ _ _ (by simp <;> omega), World.cell?_setCell_other _ _ _ _ (by simp <;> omega)]
theorem set3_self {w : World} {g k : Nat} {y0 y1 y2 u0 u1 u2 : Value} (h0 : w.cell? ⟨g, k, none⟩ = some u0) (h1 : w.cell? ⟨g, k + 1, none⟩ = some u1) (h2 : w.cell? ⟨g, k + 2, none⟩ = some u2) :
    (set3 w g k y0 y1 y2).cell? ⟨g, k, none⟩ = some y0 ∧ (set3 w g k y0 y1 y2).cell? ⟨g, k + 1, none⟩ = some y1 ∧ (set3 w g k y0 y1 y2).cell? ⟨g, k + 2, none⟩ = some y2 := by
  unfold set3
  refine ⟨?_, ?_, ?_⟩
  · rw [World.cell?_setCell_other _ _ _ _ (by simp), World.cell?_setCell_other _ _ _ _ (by simp)]
    exact cell_same h0 _
  · rw [World.cell?_setCell_other _ _ _ _ (by simp)]
    exact cell_same ((World.cell?_setCell_other _ _ _ _ (by simp)).trans h1) _
  · exact cell_same ((World.cell?_setCell_other _ _ _ _ (by simp)).trans ((World.cell?_setCell_other _ _ _ _ (by simp)).trans h2)) _
theorem VRow.set_ {nf nc : Nat} {w1 : World} {ks : List PV} {xs : List Value} {g i : Nat} (hxs : RVals (PV3 X nf nc W) 3 ks xs) (hb : Below W.heap.size W w1) (hg : W.heap.size ≤ g) (hX : ¬ X g) (hcell : ∀ j u, xs[j]? = some u → w1.cell? ⟨g, 0 + j, none⟩ = some u) (hi : i < ks.length)
    {b : PV} {y0 y1 y2 : Value} (hv : VIn X nf nc W b y0 y1 y2) : VRow X nf nc (set3 w1 g (i * 3) y0 y1 y2) (some ⟨g, 0, none⟩) (ks.set i b) ∧ (∃ u0 u1 u2, w1.cell? ⟨g, i * 3, none⟩ = some u0 ∧ w1.cell? ⟨g, i * 3 + 1, none⟩ = some u1 ∧ w1.cell? ⟨g, i * 3 + 2, none⟩ = some u2) ∧ Below W.heap.size W (set3 w1 g (i * 3) y0 y1 y2) := by
  have hbs : Below W.heap.size W (set3 w1 g (i * 3) y0 y1 y2) := ((hb.setCell (p := ⟨g, i * 3, none⟩) hg y0).setCell (p := ⟨g, i * 3 + 1, none⟩) hg y1).setCell (p := ⟨g, i * 3 + 2, none⟩) hg y2
  have hkx : KpX X W (set3 w1 g (i * 3) y0 y1 y2) := KpX.below hbs
  have hc3 : ∀ j, (hj : j < ks.length) → ∃ z0 z1 z2, VIn X nf nc W ks[j] z0 z1 z2 ∧ xs[j * 3]? = some z0 ∧ xs[j * 3 + 1]? = some z1 ∧ xs[j * 3 + 2]? = some z2 := fun j hj => by
    obtain ⟨c, ⟨x0, x1, x2, rfl, hvj⟩, -, hjj⟩ := hxs.at_ j hj
    have e0 := hjj 0 (by omega)
    have e1 := hjj 1 (by omega)
    have e2 := hjj 2 (by omega)
    simp only [Nat.add_zero, List.getElem?_cons_zero, List.getElem?_cons_succ] at e0 e1 e2
    exact ⟨x0, x1, x2, hvj, e0, e1, e2⟩
  obtain ⟨z0, z1, z2, -, e0, e1, e2⟩ := hc3 i hi
  have q0 := hcell _ _ e0
  have q1 := hcell _ _ e1
  have q2 := hcell _ _ e2
  simp only [Nat.zero_add] at q0 q1 q2
  have hself := set3_self (y0 := y0) (y1 := y1) (y2 := y2) q0 q1 q2
  refine ⟨.inr ⟨g, 0, fun j => if j = i then y0 else xs[j * 3]?.getD default, fun j => if j = i then y1 else xs[j * 3 + 1]?.getD default, fun j => if j = i then y2 else xs[j * 3 + 2]?.getD default, rfl, hX, ?_, ?_, ?_, ?_⟩, ⟨_, _, _, q0, q1, q2⟩, hbs⟩
  all_goals
    intro j hj
    have hj' : j < ks.length := by simpa using hj
    by_cases hji : j = i
  · subst hji; simpa using hself.1
  · obtain ⟨t0, t1, t2, -, r0, r1, r2⟩ := hc3 j hj'
    simp only [hji, if_false, r0, Option.getD_some, Nat.zero_add]
    rw [set3_other (by omega) (by omega) (by omega)]
    have := hcell _ _ r0
    simpa using this
  · subst hji; simpa using hself.2.1
  · obtain ⟨t0, t1, t2, -, r0, r1, r2⟩ := hc3 j hj'
    simp only [hji, if_false, r1, Option.getD_some, Nat.zero_add]
    rw [set3_other (by omega) (by omega) (by omega)]
    have := hcell _ _ r1
    simpa [Nat.add_assoc] using this
  · subst hji; simpa using hself.2.2
  · obtain ⟨t0, t1, t2, -, r0, r1, r2⟩ := hc3 j hj'
    simp only [hji, if_false, r2, Option.getD_some, Nat.zero_add]
    rw [set3_other (by omega) (by omega) (by omega)]
    have := hcell _ _ r2
    simpa [Nat.add_assoc] using this
  · subst hji
    simp only [if_true, List.getElem_set_self]
    exact hv.step hkx (Nat.le_refl _) (Nat.le_refl _)
  · obtain ⟨t0, t1, t2, hvj, r0, r1, r2⟩ := hc3 j hj'
    simp only [hji, if_false, r0, r1, r2, Option.getD_some]
    rw [List.getElem_set_ne (Ne.symm hji)]
    exact hvj.step hkx (Nat.le_refl _) (Nat.le_refl _)
def setO (a b : PV) (s : St) : Out := match a with | .ref i => (.val (.int 0), { s with cells := s.cells.set i b }) | _ => (.stuck, s)
set_option maxRecDepth 100000 in
set_option maxHeartbeats 2000000 in
theorem rprim_set (h : RGo X B mb cb inp fuel s W) (hX : ∀ k, X k → k < W.heap.size) {A : Option Addr} {l : List PV} {c : Nat} (hv : VRow X s.fns.length s.cells.length W A l) (hl : 1 < l.length) :
    Calls Tryd.prog 75 #[.pointer (some ⟨mb, 0, none⟩), .int .i64 12, .slice A l.length c] W (ROut X B mb cb inp fuel s (setO l[0] l[1] s) W) := by
  generalize hV0 : (W.alloc (.cells #[.int .i64 0, .int .i64 0, .slice none 0 0] 65)) = V0
  obtain ⟨hb1, hbx, hg0, hsz⟩ := box_world h V0 hV0
  have hv0 := (hv.bx (b := W.heap.size) (by omega)).step (KpX.below hb1) (Nat.le_refl _) (Nat.le_refl _)
  obtain ⟨bb, oo, a0, a1, a2, rfl, c0, c1, c2, hsub⟩ := hv0.at_ (show 0 < l.length by omega)
  obtain ⟨bb', oo', b0, b1, b2, he, d0, d1, d2, hsub2⟩ := hv0.at_ hl
  simp only [Option.some.injEq, Addr.mk.injEq, and_true] at he
  obtain ⟨rfl, rfl⟩ := he
  simp only [Nat.zero_mul, Nat.add_zero, Nat.one_mul] at c0 c1 c2 d0 d1 d2
  have hX0 : ∀ k, Bx X W.heap.size k → k < V0.heap.size := fun k hk => by
    rcases hk with hk | hk
    · have := hX k hk; omega
    · omega
  have HS := Lib.hid ((rstop_any hg0).mono fun e w' hp => ROut.box (W := W) (b := W.heap.size) h.hX h.hBW (own_lt h) (Nat.le_refl _) hbx (Stp.below hb1 h.hBW) ⟨Nat.le_refl _, Nat.le_refl _⟩ (ROut.stop hp))
  obtain ⟨k1, n1, A1, l1, d1', rfl, rfl, rfl, hr, hnr, -⟩ := hsub.one_
  obtain ⟨o, ho⟩ : ∃ o, setO l[0] l[1] s = o := ⟨_, rfl⟩
  rw [ho]
  have hll : (0 : Int) < (l.length : Int) := by omega
  have hll1 : (1 : Int) < (l.length : Int) := by omega
  by_cases hk : k1 = 4
  rotate_left
  · obtain rfl : o = (.stuck, s) := by
      rw [← ho]
      have := hnr hk
      unfold setO
      split
      · rename_i i hi; exact absurd hi (this i)
      · rfl
    have hk4 : (k1 == 4) = false := by simpa using hk
    have hk5 : (k1 != 4) = true := by simpa using hk
    clear h hb1 hbx hg0 hsz hv hv0 hsub hr hnr ho hk hX hX0 hsub2 hl
    generalize l.length = kl at *
    go_enter Tryd.func75, Tryd.ntmps75
    go_wp2_with (go_at_call 46; refine HS.out.mono ?_; rintro e w' ⟨k, n, A, l, d, rfl, ⟨f0, f1, f2, ff⟩, hR⟩; have HR := Lib.hid hR; clear hR)
    exact bodyPost_ret (v := .agg #[.int .i64 k, .int .i64 n, .slice A l d]) (by simp [results, Tryd.results75, go_sem, f0, f1, f2]) rfl HR.out
  subst hk
  clear HS
  obtain ⟨i, hi, hic, rfl⟩ := hr rfl
  rw [hi] at ho
  simp only [setO] at ho
  obtain ⟨k2, n2, A2, l2, d2', rfl, rfl, rfl⟩ := hsub2.shape
  obtain ⟨Af, cf, xs, hcb, hxs, hrow, -⟩ := hg0.celL
  have hone := hxs.one (fun a c h => h.one)
  have hlen := hxs.len
  have hfb := h.fuelB
  have hlb := h.limB
  have hcel := hg0.celB
  have hnb : s.cells.length ≤ 1000000000 := by omega
  obtain ⟨inf0, hinf, hz0, hz1, hz2⟩ := info_parts Tryd.infoV
  have hmf := hg0.cells.2.2.2.2.2.2.2.2.2.1
  have hmlt : mb < V0.heap.size := (own_lt hg0).1
  have hblt : bb < V0.heap.size := lt_of_cell c1
  have HP := Lib.hid (fun (w1 : World) (g cap : Nat) (hb : Below V0.heap.size V0 w1) (hg : V0.heap.size ≤ g) (hcap : s.cells.length ≤ cap) (hcell : ∀ j u, xs[j]? = some u → w1.cell? ⟨g, 0 + j, none⟩ = some u) =>
    (show (∃ u0 u1 u2, w1.cell? ⟨g, i * 3, none⟩ = some u0 ∧ w1.cell? ⟨g, i * 3 + 1, none⟩ = some u1 ∧ w1.cell? ⟨g, i * 3 + 2, none⟩ = some u2) ∧ Below V0.heap.size V0 (set3 w1 g (i * 3) (.int .i64 k2) (.int .i64 n2) (.slice A2 l2 d2')) ∧ ∀ (V V' : World), Below (set3 w1 g (i * 3) (.int .i64 k2) (.int .i64 n2) (.slice A2 l2 d2')).heap.size (set3 w1 g (i * 3) (.int .i64 k2) (.int .i64 n2) (.slice A2 l2 d2')) V →
        Below (V.setCell ⟨mb, 5, none⟩ (.slice (some ⟨g, 0, none⟩) s.cells.length cap)).heap.size (V.setCell ⟨mb, 5, none⟩ (.slice (some ⟨g, 0, none⟩) s.cells.length cap)) V' →
        (V'.cell? ⟨W.heap.size, 0, none⟩ = some (.int .i64 0) ∧ V'.cell? ⟨W.heap.size, 1, none⟩ = some (.int .i64 0) ∧ V'.cell? ⟨W.heap.size, 2, none⟩ = some (.slice none 0 0) ∧ (∀ i, V'.frozen? ⟨W.heap.size, i, none⟩ = false)) ∧
        ROut X B mb cb inp fuel s o W (.returned (.agg #[.int .i64 1, .int .i64 0, .slice none 0 0])) (((V'.setCell ⟨W.heap.size, 0, none⟩ (.int .i64 1)).setCell ⟨W.heap.size, 1, none⟩ (.int .i64 0)).setCell ⟨W.heap.size, 2, none⟩ (.slice none 0 0)) from by
      obtain ⟨r1, r2, r3⟩ := VRow.set_ hxs hb hg (fun hx => by have := hX0 g hx; omega) hcell hic hsub2
      refine ⟨r2, r3, fun V V' hV hV' => ?_⟩
      have hle : V0.heap.size ≤ (set3 w1 g (i * 3) (.int .i64 k2) (.int .i64 n2) (.slice A2 l2 d2')).heap.size := r3.size
      have hbV : Below V0.heap.size V0 V := r3.trans (hV.mono hle)
      have hcs : (s.cells.set i l[1]).length = s.cells.length := by simp
      have r5 := hg0.celR hbV (l := s.cells.set i l[1]) (A := some ⟨g, 0, none⟩) (cap := cap) (by omega) (by omega) (by rw [hcs]; exact hcel) (by rw [hcs]; exact r1.step (KpX.below hV) (Nat.le_refl _) (Nat.le_refl _))
      rw [hcs] at r5
      obtain ⟨r6, r7⟩ := r5
      rw [← ho]
      exact ROut.box' (X := X) (fuel := fuel) (s1 := s) (o := (.val (.int 0), { s with cells := s.cells.set i l[1] })) (W := W) (W1 := V0) (W2 := V') (b := W.heap.size) h.hX h.hBW (own_lt h) (Nat.le_refl _) hbx (Stp.below hb1 h.hBW) ⟨Nat.le_refl _, Nat.le_refl _⟩
        ⟨r7.trans (Stp.below hV' r6.hBW), ⟨Nat.le_refl _, by simp⟩, _, _, _, _, _, rfl, r6.below hV', .int _⟩))
  have hn0 : 0 < s.cells.length := by omega
  have hi0 : (0 : Int) ≤ (i : Int) := by omega
  have hil : (i : Int) < (s.cells.length : Int) := by omega
  clear h hX hxs hlb hfb hg0 hX0 hb1 hbx hv hv0 hsub hr hnr hi hsub2 hcel
  have hic' : i < s.cells.length := hic
  clear ho
  have hl' : 1 < l.length := hl
  generalize hcl : s.cells.length = n at *
  clear hcl hic
  have HR := Lib.hid (fun (V : World) (hb : Below V0.heap.size V0 V) => hrow.below hb)
  have HF := Lib.hid (fun (V : World) (hb : Below V0.heap.size V0 V) => (show V.frozen? ⟨mb, 5, none⟩ = false from (hb.frozen (p := ⟨mb, 5, none⟩) hmlt).trans (hmf 5)))
  have HS := Lib.hid (fun (V : World) (hb : Below V0.heap.size V0 V) => (show V.cell? ⟨bb, oo + 1, none⟩ = some (.int .i64 (i : Int)) ∧ V.cell? ⟨mb, 5, none⟩ = some (.slice Af n cf) ∧ V.cell? ⟨bb, oo + 3, none⟩ = some (.int .i64 k2) ∧ V.cell? ⟨bb, oo + 3 + 1, none⟩ = some (.int .i64 n2) ∧ V.cell? ⟨bb, oo + 3 + 2, none⟩ = some (.slice A2 l2 d2') from
    ⟨cell_behind hb c1, cell_behind hb hcb, cell_behind hb d0, cell_behind hb d1, cell_behind hb d2⟩))
  have HOa := Lib.hid (own_empty V0 (Nat.le_refl _) 65 3)
  have HBa := Lib.hid (below_al1 V0 (.cells #[] 65))
  have hll' : (0 : Int) < (l.length : Int) := hll
  generalize l.length = kl at *
  clear hrow hmf hl
  go_enter Tryd.func75, Tryd.ntmps75
  go_wp2_with (at_builtin; refine wpList_append_row _ rfl _ _ 63 rfl V0.heap.size 65 inf0 _ 3 40 Tryd.underlying63 hinf hz0 hz1 hz2 rfl (by decide) _ 0 [] rfl HOa.out Af n cf xs rfl hlen (HR.out _ HBa.out) hone (by simp only [maxLen]; omega) (by omega) HBa.out.size ?_; intro v1 w1 hown1 hgr1 hat1; have HB1 := Lib.hid (grown_below HBa.out hgr1 (own_ge HOa.out)); obtain ⟨g, cap, rfl, hg, hcap, hgf, hgl, hcell⟩ := own_cell (own_size (show n = 0 + n by omega) hown1) hn0; clear hown1 hat1 hgr1)
  obtain ⟨⟨u0, u1, u2, q0, q1, q2⟩, hbs, hQ⟩ := HP.out w1 g cap HB1.out hg hcap hcell
  have HQ := Lib.hid hQ
  obtain ⟨i1, i2, i3, i4, i5⟩ := HS.out w1 HB1.out
  have HBS := Lib.hid hbs
  clear hQ hcell hbs HP
  go_region
  all_goals
    have HQ2 := Lib.hid (fun V' hb' => HQ.out (set3 w1 g (i * 3) (.int .i64 k2) (.int .i64 n2) (.slice A2 l2 d2')).drew V' (Below.refl _ _).drew hb')
    obtain ⟨-, j2, -⟩ := HS.out _ HBS.out.drew
    have kf := HF.out _ HBS.out.drew
    clear i1 i2 i3 i4 i5 q0 q1 q2 HBS HQ
    simp only [set3] at HQ2 j2 kf
    generalize (((w1.setCell ⟨g, i * 3, none⟩ (.int .i64 k2)).setCell ⟨g, i * 3 + 1, none⟩ (.int .i64 n2)).setCell ⟨g, i * 3 + 2, none⟩ (.slice A2 l2 d2')).drew = V at *
    go_wp2_with (go_at_call 47; refine (vint_any _ _).mono ?_; rintro e w5 ⟨rfl, hbi⟩; obtain ⟨⟨f0, f1, f2, ff⟩, hR⟩ := HQ2.out _ hbi; have HRR := Lib.hid hR; clear hR)
    exact bodyPost_ret (v := .agg #[.int .i64 1, .int .i64 0, .slice none 0 0]) (by simp [results, Tryd.results75, go_sem, f0, f1, f2]) rfl HRR.out
end
end Go.Proofs.YtnolhcdfknjncaaDoor
