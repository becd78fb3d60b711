/-
  1 texts of this seat in one: V24.
-/
import Derived.Test.YtnolhcdfknjncaaDoorY13
/-
  The document's run: a function that is made, while what it knows is not made whole yet: what lies in memory.
-/
set_option linter.unusedVariables false
set_option linter.unusedSimpArgs false
namespace Go.Proofs.YtnolhcdfknjncaaDoor
open Go.RowKit

section
variable {X Y : Nat → Prop} {B mb cb : Nat} {inp : List Int} {fuel : FL} {s s1 : St} {cut stk rai : Bool} {x0 x1 x2 : Value} {W W' W1 W2 : World} {o : Out}
def RawFn (mb cb : Nat) (n : Nat) (xs news : List Value) (W w' : World) : Prop :=
  ∃ g cap, W.heap.size ≤ g ∧ n + 1 ≤ cap ∧ w'.heap[cb]? = some (.cells #[.pointer (some ⟨mb, 0, none⟩), .slice (some ⟨g, 0, none⟩) (n + 1) cap] 61 (0, 0)) ∧ (∀ j u, (xs ++ news)[j]? = some u → w'.cell? ⟨g, 0 + j, none⟩ = some u) ∧ W.grownBy w' (some cb)
theorem raw_end {n : Nat} {xs news : List Value} {V0 V : World} {Af : Option Addr} {cf g cap : Nat} {T : TypeId} {z0 z1 z2 : Value} (hcb0 : cb < W.heap.size) (hb0 : Below W.heap.size W V0) (hcb : V0.heap[cb]? = some (.cells #[.pointer (some ⟨mb, 0, none⟩), .slice Af n cf] 61 (0, 0))) (hbx : V0.heap[W.heap.size + 1]? = some (.cells #[z0, z1, z2] T (0, 0)))
    (hb : Below V0.heap.size V0 V) (hown : V.ownsRow V0.heap.size 108 6 (.slice (some ⟨g, 0, none⟩) (n + 1) cap) (n + 1) (xs ++ news)) (y0 y1 y2 : Value) :
    ((V.setCell ⟨cb, 1, none⟩ (.slice (some ⟨g, 0, none⟩) (n + 1) cap)).cell? ⟨W.heap.size + 1, 0, none⟩ = some z0 ∧ (V.setCell ⟨cb, 1, none⟩ (.slice (some ⟨g, 0, none⟩) (n + 1) cap)).cell? ⟨W.heap.size + 1, 1, none⟩ = some z1 ∧ (V.setCell ⟨cb, 1, none⟩ (.slice (some ⟨g, 0, none⟩) (n + 1) cap)).cell? ⟨W.heap.size + 1, 2, none⟩ = some z2 ∧ (∀ i, (V.setCell ⟨cb, 1, none⟩ (.slice (some ⟨g, 0, none⟩) (n + 1) cap)).frozen? ⟨W.heap.size + 1, i, none⟩ = false)) ∧
      RawFn mb cb n xs news W ((((V.setCell ⟨cb, 1, none⟩ (.slice (some ⟨g, 0, none⟩) (n + 1) cap)).setCell ⟨W.heap.size + 1, 0, none⟩ y0).setCell ⟨W.heap.size + 1, 1, none⟩ y1).setCell ⟨W.heap.size + 1, 2, none⟩ y2) := by
  have hlt := (Array.getElem?_eq_some_iff.1 hbx).1
  have hge := own_ge hown g rfl
  obtain ⟨g', cap', e, -, hcap, -, hgl, hcell⟩ := own_cell hown (by omega)
  simp only [Value.slice.injEq, Option.some.injEq, Addr.mk.injEq, and_true, true_and] at e
  obtain ⟨rfl, rfl⟩ := e
  have e1 : (V.setCell ⟨cb, 1, none⟩ (.slice (some ⟨g, 0, none⟩) (n + 1) cap)).heap[W.heap.size + 1]? = some (.cells #[z0, z1, z2] T (0, 0)) := (heap_set_ne (by omega) _ _).trans ((hb.block _ hlt).trans hbx)
  have e2 : (V.setCell ⟨cb, 1, none⟩ (.slice (some ⟨g, 0, none⟩) (n + 1) cap)).heap[cb]? = some (.cells #[.pointer (some ⟨mb, 0, none⟩), .slice (some ⟨g, 0, none⟩) (n + 1) cap] 61 (0, 0)) := by
    have := (hb.block cb (by omega)).trans hcb
    rw [heap_set_self this 1 _]
    rfl
  refine ⟨⟨by simp [World.cell?, e1], by simp [World.cell?, e1], by simp [World.cell?, e1], fun i => by simp [World.frozen?, e1]⟩, g, cap, by have := hb0.size; omega, hcap, ?_, ?_, ?_⟩
  · exact (heap_set_ne (by omega) _ _).trans ((heap_set_ne (by omega) _ _).trans ((heap_set_ne (by omega) _ _).trans e2))
  · intro j u hj
    rw [World.cell?_setCell_far _ _ (⟨g, 0 + j, none⟩ : Addr) _ (show W.heap.size + 1 ≠ g by omega), World.cell?_setCell_far _ _ (⟨g, 0 + j, none⟩ : Addr) _ (show W.heap.size + 1 ≠ g by omega), World.cell?_setCell_far _ _ (⟨g, 0 + j, none⟩ : Addr) _ (show W.heap.size + 1 ≠ g by omega), World.cell?_setCell_far _ _ (⟨g, 0 + j, none⟩ : Addr) _ (show cb ≠ g by omega)]
    exact hcell j u hj
  · have hbb := hb0.trans (hb.mono hb0.size)
    exact ⟨hbb.os, hbb.tape, hbb.output, by simpa [World.setCell] using hbb.size, fun k hk hne =>
      (heap_set_ne (by omega) _ _).trans ((heap_set_ne (by omega) _ _).trans ((heap_set_ne (by omega) _ _).trans ((heap_set_ne (fun e => hne (by rw [e])) _ _).trans (hbb.block k hk))))⟩

set_option maxRecDepth 100000 in
set_option maxHeartbeats 2000000 in
theorem rfn_raw {n : Nat} {xs : List Value} {Af : Option Addr} {cf : Nat} {fp ck cn : Int} {Ak Ac : Option Addr} {kl cak cl cac : Nat} {pq : Option Addr} (hcb : W.heap[cb]? = some (.cells #[.pointer (some ⟨mb, 0, none⟩), .slice Af n cf] 61 (0, 0))) (hrow : RowOf W Af xs) (hlen : xs.length = n * 6) (hone : ∀ u ∈ xs, u.oneCell' = true) (hn : n ≤ 1000000000) :
    Calls Tryd.prog 48 #[.pointer (some ⟨cb, 0, none⟩), .agg #[.int .i64 fp, .int .i64 ck, .int .i64 cn, .slice Ak kl cak, .slice Ac cl cac, .pointer pq]] W fun e w' => e = .returned (.agg #[.int .i64 3, .int .i64 (n : Int), .slice none 0 0]) ∧ RawFn mb cb n xs [.int .i64 fp, .int .i64 ck, .int .i64 cn, .slice Ak kl cak, .slice Ac cl cac, .pointer pq] W w' := by
  have hb0 := below_al2 W (.cells #[.int .i64 fp, .int .i64 ck, .int .i64 cn, .slice Ak kl cak, .slice Ac cl cac, .pointer pq] 108) (.cells #[.int .i64 0, .int .i64 0, .slice none 0 0] 65)
  have hbox : (W.alloc (.cells #[.int .i64 fp, .int .i64 ck, .int .i64 cn, .slice Ak kl cak, .slice Ac cl cac, .pointer pq] 108)).heap[W.heap.size]? = _ := new1 _ _
  replace hbox := ((below_al1 _ (.cells #[.int .i64 0, .int .i64 0, .slice none 0 0] 65)).block W.heap.size (by simp)).trans hbox
  have hbx : ((W.alloc (.cells #[.int .i64 fp, .int .i64 ck, .int .i64 cn, .slice Ak kl cak, .slice Ac cl cac, .pointer pq] 108)).alloc (.cells #[.int .i64 0, .int .i64 0, .slice none 0 0] 65)).heap[W.heap.size + 1]? = some (.cells #[.int .i64 0, .int .i64 0, .slice none 0 0] 65 (0, 0)) := new2 _ _ _
  have hsz : W.heap.size + 1 < ((W.alloc (.cells #[.int .i64 fp, .int .i64 ck, .int .i64 cn, .slice Ak kl cak, .slice Ac cl cac, .pointer pq] 108)).alloc (.cells #[.int .i64 0, .int .i64 0, .slice none 0 0] 65)).heap.size := by simp
  generalize hV0 : ((W.alloc (.cells #[.int .i64 fp, .int .i64 ck, .int .i64 cn, .slice Ak kl cak, .slice Ac cl cac, .pointer pq] 108)).alloc (.cells #[.int .i64 0, .int .i64 0, .slice none 0 0] 65)) = V0 at *
  have hlt : cb < W.heap.size := (Array.getElem?_eq_some_iff.1 hcb).1
  replace hcb := (hb0.block cb hlt).trans hcb
  replace hrow := hrow.below hb0
  obtain ⟨inf0, hinf, hz0, hz1, hz2⟩ := info_parts Tryd.infoFn
  have HP := Lib.hid (fun (V : World) (g cap : Nat) (hb : Below V0.heap.size V0 V) (hown : V.ownsRow V0.heap.size 108 6 (.slice (some ⟨g, 0, none⟩) (n + 1) cap) (n + 1) (xs ++ [.int .i64 fp, .int .i64 ck, .int .i64 cn, .slice Ak kl cak, .slice Ac cl cac, .pointer pq])) =>
    raw_end (mb := mb) hlt hb0 hcb hbx hb hown (.int .i64 3) (.int .i64 (n : Int)) (.slice none 0 0))
  clear hb0 hbx
  have HS := Lib.hid (fun (V : World) (hb : Below V0.heap.size V0 V) => (show V.cell? ⟨cb, 1, none⟩ = some (.slice Af n cf) ∧ V.cell? ⟨W.heap.size, 0, none⟩ = some (.int .i64 fp) ∧ V.cell? ⟨W.heap.size, 1, none⟩ = some (.int .i64 ck) ∧ V.cell? ⟨W.heap.size, 2, none⟩ = some (.int .i64 cn) ∧ V.cell? ⟨W.heap.size, 3, none⟩ = some (.slice Ak kl cak) ∧ V.cell? ⟨W.heap.size, 4, none⟩ = some (.slice Ac cl cac) ∧ V.cell? ⟨W.heap.size, 5, none⟩ = some (.pointer pq) from by
    have e1 := (hb.block cb (by omega)).trans hcb
    have e2 := (hb.block W.heap.size (by omega)).trans hbox
    exact ⟨by simp [World.cell?, e1], by simp [World.cell?, e2], by simp [World.cell?, e2], by simp [World.cell?, e2], by simp [World.cell?, e2], by simp [World.cell?, e2], by simp [World.cell?, e2]⟩))
  have HR := Lib.hid (fun (V : World) (hb : Below V0.heap.size V0 V) => hrow.below hb)
  have HB0 := Lib.hid (show Below V0.heap.size V0 V0 from (Below.refl _ _))
  have HF := Lib.hid (fun (V : World) (hb : Below V0.heap.size V0 V) => (show V.frozen? ⟨cb, 1, none⟩ = false from by
    have e1 := (hb.block cb (by omega)).trans hcb
    simp [World.frozen?, e1]))
  go_enter Tryd.func48, Tryd.ntmps48
  go_wp2_with fail
  clear hbox hV0 hcb hrow
  have HBa := Lib.hid (below_al1 V0 (.cells #[] 108)).drew
  have HBb := Lib.hid (below_al2 V0 (.cells #[] 108) (.cells #[.int .i64 fp, .int .i64 ck, .int .i64 cn, .slice Ak kl cak, .slice Ac cl cac, .pointer pq] 108)).drew
  have HBc := Lib.hid (below_al2 V0 (.cells #[.int .i64 fp, .int .i64 ck, .int .i64 cn, .slice Ak kl cak, .slice Ac cl cac, .pointer pq] 108) (.cells #[] 108)).drew
  have HBd := Lib.hid (below_al1 V0 (.cells #[.int .i64 fp, .int .i64 ck, .int .i64 cn, .slice Ak kl cak, .slice Ac cl cac, .pointer pq] 108)).drew
  have HOa := Lib.hid (World.ownsRow.drew (own_empty V0 (Nat.le_refl _) 108 6))
  have HOb := Lib.hid (World.ownsRow.drew (World.ownsRow.alloc (own_empty V0 (Nat.le_refl _) 108 6) (.cells #[.int .i64 fp, .int .i64 ck, .int .i64 cn, .slice Ak kl cak, .slice Ac cl cac, .pointer pq] 108)))
  have HOc := Lib.hid (show (((V0.alloc (.cells #[.int .i64 fp, .int .i64 ck, .int .i64 cn, .slice Ak kl cak, .slice Ac cl cac, .pointer pq] 108)).alloc (.cells #[] 108)).drew).ownsRow V0.heap.size 108 6 (.slice (some ⟨V0.heap.size + 1, 0, none⟩) 0 0) 0 [] from by
    have e := World.ownsRow.drew (own_empty (V0.alloc (.cells #[.int .i64 fp, .int .i64 ck, .int .i64 cn, .slice Ak kl cak, .slice Ac cl cac, .pointer pq] 108)) (base := V0.heap.size) (by simp) 108 6)
    rwa [World.size_alloc] at e)
  have HGb := Lib.hid (fun (w1 : World) (hg : (((V0.alloc (.cells #[] 108)).alloc (.cells #[.int .i64 fp, .int .i64 ck, .int .i64 cn, .slice Ak kl cak, .slice Ac cl cac, .pointer pq] 108)).drew).grownBy w1 (Value.ownBlock (.slice (some ⟨V0.heap.size, 0, none⟩) 0 0))) => rowOf_block ((hg.block (V0.heap.size + 1) (by show V0.heap.size + 1 < ((V0.alloc (.cells #[] 108)).alloc (.cells #[.int .i64 fp, .int .i64 ck, .int .i64 cn, .slice Ak kl cak, .slice Ac cl cac, .pointer pq] 108)).heap.size; simp) (by simp [Value.ownBlock])).trans (new2 V0 _ _)))
  have HGc := Lib.hid (fun (w1 : World) (hg : (((V0.alloc (.cells #[.int .i64 fp, .int .i64 ck, .int .i64 cn, .slice Ak kl cak, .slice Ac cl cac, .pointer pq] 108)).alloc (.cells #[] 108)).drew).grownBy w1 (Value.ownBlock (.slice (some ⟨V0.heap.size + 1, 0, none⟩) 0 0))) => rowOf_block ((hg.block V0.heap.size  (by show V0.heap.size < ((V0.alloc (.cells #[.int .i64 fp, .int .i64 ck, .int .i64 cn, .slice Ak kl cak, .slice Ac cl cac, .pointer pq] 108)).alloc (.cells #[] 108)).heap.size; simp; omega) (by simp [Value.ownBlock])).trans (((below_al1 _ (.cells #[] 108)).block V0.heap.size (by simp)).trans (new1 V0 (.cells #[.int .i64 fp, .int .i64 ck, .int .i64 cn, .slice Ak kl cak, .slice Ac cl cac, .pointer pq] 108)))))
  have hone2 : ∀ u ∈ ([.int .i64 fp, .int .i64 ck, .int .i64 cn, .slice Ak kl cak, .slice Ac cl cac, .pointer pq] : List Value), u.oneCell' = true := by simp [Value.oneCell']
  obtain ⟨h0, h1, h2, h3, h4, h5, h6⟩ := HS.out V0 HB0.out
  have k0 := HF.out V0 HB0.out
  have hc0 : cb < V0.heap.size := by omega
  have hw0 : W.heap.size < V0.heap.size := by omega
  have hw1 : IntKind.i64.wrap (n : Int) = (n : Int) := by rw [IntKind.wrap_i64]; omega
  have hw2 : IntKind.i64.wrap ((n : Int) + 1 - 1) = (n : Int) := by rw [IntKind.wrap_i64]; omega
  go_region_law ((first
      | (rw [if_pos (by rfl)]; refine wp_append_row _ _ _ 59 rfl V0.heap.size 108 inf0 _ 6 80 Tryd.underlying59 hinf hz0 hz1 hz2 rfl (by decide) _ 0 [] rfl HOa.out Af n cf xs rfl hlen (HR.out _ HBa.out) hone (by simp only [maxLen]; omega) (by omega) (Nat.le_trans (Nat.le_refl _) HBa.out.size) ?_; intro v1 w1 hown1 hgr1 hat1; have HB1 := Lib.hid (grown_below HBa.out hgr1 (own_ge HOa.out)); have hown1' := own_size (show n = 0 + n by omega) hown1; clear hown1 hat1; obtain ⟨A1, n1, c1, rfl⟩ := own_shape hown1'; obtain ⟨i0, i1, i2, i3, i4, i5, i6⟩ := HS.out w1 HB1.out; have hc1 : cb < w1.heap.size := Nat.lt_of_lt_of_le hc0 HB1.out.size; have hw1 : W.heap.size < w1.heap.size := Nat.lt_of_lt_of_le hw0 HB1.out.size)
      | (rw [if_pos (by rfl)]; refine wp_append_row _ _ _ 59 rfl V0.heap.size 108 inf0 _ 6 80 Tryd.underlying59 hinf hz0 hz1 hz2 rfl (by decide) _ 0 [] rfl HOb.out Af n cf xs rfl hlen (HR.out _ HBb.out) hone (by simp only [maxLen]; omega) (by omega) (Nat.le_trans (Nat.le_refl _) HBb.out.size) ?_; intro v1 w1 hown1 hgr1 hat1; have HB1 := Lib.hid (grown_below HBb.out hgr1 (own_ge HOb.out)); have HF1 := Lib.hid (HGb.out _ hgr1); have hown1' := own_size (show n = 0 + n by omega) hown1; clear hown1 hat1; obtain ⟨A1, n1, c1, rfl⟩ := own_shape hown1'; obtain ⟨i0, i1, i2, i3, i4, i5, i6⟩ := HS.out w1 HB1.out; have hc1 : cb < w1.heap.size := Nat.lt_of_lt_of_le hc0 HB1.out.size; have hw1 : W.heap.size < w1.heap.size := Nat.lt_of_lt_of_le hw0 HB1.out.size)
      | (rw [if_pos (by rfl)]; refine wp_append_row _ _ _ 59 rfl V0.heap.size 108 inf0 _ 6 80 Tryd.underlying59 hinf hz0 hz1 hz2 rfl (by decide) _ 0 [] rfl HOc.out Af n cf xs rfl hlen (HR.out _ HBc.out) hone (by simp only [maxLen]; omega) (by omega) (Nat.le_trans (Nat.le_refl _) HBc.out.size) ?_; intro v1 w1 hown1 hgr1 hat1; have HB1 := Lib.hid (grown_below HBc.out hgr1 (own_ge HOc.out)); have HF1 := Lib.hid (HGc.out _ hgr1); have hown1' := own_size (show n = 0 + n by omega) hown1; clear hown1 hat1; obtain ⟨A1, n1, c1, rfl⟩ := own_shape hown1'; obtain ⟨i0, i1, i2, i3, i4, i5, i6⟩ := HS.out w1 HB1.out; have hc1 : cb < w1.heap.size := Nat.lt_of_lt_of_le hc0 HB1.out.size; have hw1 : W.heap.size < w1.heap.size := Nat.lt_of_lt_of_le hw0 HB1.out.size)
      | (rw [if_pos (by rfl)]; refine wp_append_row _ _ _ 59 rfl V0.heap.size 108 inf0 _ 6 80 Tryd.underlying59 hinf hz0 hz1 hz2 rfl (by decide) _ n xs rfl (World.ownsRow.alloc hown1' _) _ 1 1 [.int .i64 fp, .int .i64 ck, .int .i64 cn, .slice Ak kl cak, .slice Ac cl cac, .pointer pq] rfl rfl (rowOf_block (new1 w1 (.cells #[.int .i64 fp, .int .i64 ck, .int .i64 cn, .slice Ak kl cak, .slice Ac cl cac, .pointer pq] 108))) hone2 (by simp only [maxLen]; omega) (by omega) (HB1.out.alloc HB1.out.size (.cells #[.int .i64 fp, .int .i64 ck, .int .i64 cn, .slice Ak kl cak, .slice Ac cl cac, .pointer pq] 108)).size ?_; intro v2 w2 hown2 hgr2 hat2; have HB2 := Lib.hid (grown_below (HB1.out.alloc HB1.out.size (.cells #[.int .i64 fp, .int .i64 ck, .int .i64 cn, .slice Ak kl cak, .slice Ac cl cac, .pointer pq] 108)) hgr2 (own_ge hown1')); clear hat2; obtain ⟨g2, c2, rfl, -⟩ := own_cell hown2 (by omega); have kf := HF.out w2 HB2.out; have kc := (HS.out w2 HB2.out).1; have HOW := Lib.hid hown2; clear hown2 hgr2)
      | (rw [if_pos (by rfl)]; refine wp_append_row _ _ _ 59 rfl V0.heap.size 108 inf0 _ 6 80 Tryd.underlying59 hinf hz0 hz1 hz2 rfl (by decide) _ n xs rfl (World.ownsRow.drew hown1') _ 1 1 [.int .i64 fp, .int .i64 ck, .int .i64 cn, .slice Ak kl cak, .slice Ac cl cac, .pointer pq] rfl rfl HF1.out hone2 (by simp only [maxLen]; omega) (by omega) HB1.out.drew.size ?_; intro v2 w2 hown2 hgr2 hat2; have HB2 := Lib.hid (grown_below HB1.out.drew hgr2 (own_ge hown1')); clear hat2; obtain ⟨g2, c2, rfl, -⟩ := own_cell hown2 (by omega); have kf := HF.out w2 HB2.out; have kc := (HS.out w2 HB2.out).1; have HOW := Lib.hid hown2; clear hown2 hgr2)
      | (rw [if_pos (by rfl)]; refine wp_append_row _ _ _ 59 rfl V0.heap.size 108 inf0 _ 6 80 Tryd.underlying59 hinf hz0 hz1 hz2 rfl (by decide) _ n xs rfl hown1' _ 1 1 [.int .i64 fp, .int .i64 ck, .int .i64 cn, .slice Ak kl cak, .slice Ac cl cac, .pointer pq] rfl rfl HF1.out hone2 (by simp only [maxLen]; omega) (by omega) HB1.out.size ?_; intro v2 w2 hown2 hgr2 hat2; have HB2 := Lib.hid (grown_below HB1.out hgr2 (own_ge hown1')); clear hat2; obtain ⟨g2, c2, rfl, -⟩ := own_cell hown2 (by omega); have kf := HF.out w2 HB2.out; have kc := (HS.out w2 HB2.out).1; have HOW := Lib.hid hown2; clear hown2 hgr2)))
  all_goals
    obtain ⟨⟨f0, f1, f2, ff⟩, hR⟩ := HP.out _ _ _ HB2.out HOW.out
    have HRR := Lib.hid hR
    have hcc : (w2.setCell ⟨cb, 1, none⟩ (.slice (some ⟨g2, 0, none⟩) (n + 1) c2)).cell? ⟨cb, 1, none⟩ = some (.slice (some ⟨g2, 0, none⟩) (n + 1) c2) := cell_same kc _
    clear hR kf kc HB1 HB2 HOW hown1'
    generalize (w2.setCell ⟨cb, 1, none⟩ (.slice (some ⟨g2, 0, none⟩) (n + 1) c2)) = V' at *
    go_wp2_with fail
    exact bodyPost_ret (v := .agg #[.int .i64 3, .int .i64 (n : Int), .slice none 0 0]) (by simp [results, Tryd.results48, go_sem, f0, f1, f2]) rfl ⟨rfl, HRR.out⟩
end
end Go.Proofs.YtnolhcdfknjncaaDoor
