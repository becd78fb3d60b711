/-
  1 texts of this seat in one: V16.
-/
import Derived.Test.YtnolhcdfknjncaaDoorQW
/-
  The document's run: a cell that is made, an int that is printed.
-/
set_option linter.unusedVariables false
set_option linter.unusedSimpArgs false
namespace Go.Proofs.YtnolhcdfknjncaaDoor
open Go.RowKit

section
variable {X Y : Nat → Prop} {B mb cb : Nat} {inp : List Int} {fuel : FL} {s s1 : St} {cut stk rai : Bool} {x0 x1 x2 : Value} {W W' W1 W2 : World} {o : Out}
set_option maxRecDepth 100000 in
set_option maxHeartbeats 2000000 in
theorem rprim_ref (h : RGo X B mb cb inp fuel s W) (hX : ∀ k, X k → k < W.heap.size) (hlim : s.cells.length + 1 + s.left ≤ fuel.lim) {A : Option Addr} {l : List PV} {c : Nat} (hv : VRow X s.fns.length s.cells.length W A l) (hl : 0 < l.length) :
    Calls Tryd.prog 75 #[.pointer (some ⟨mb, 0, none⟩), .int .i64 10, .slice A l.length c] W (ROut X B mb cb inp fuel s (.val (.ref s.cells.length), { s with cells := s.cells ++ [l[0]] }) W) := by
  generalize hV0 : (W.alloc (.cells #[.int .i64 0, .int .i64 0, .slice none 0 0] 65)) = V0
  obtain ⟨hb1, hbx, hg0, hsz⟩ := box_world h V0 hV0
  have hv0 := (hv.bx (b := W.heap.size) (by omega)).step (KpX.below hb1) (Nat.le_refl _) (Nat.le_refl _)
  obtain ⟨bb, oo, a0, a1, a2, rfl, c0, c1, c2, hsub⟩ := hv0.at_ hl
  simp only [Nat.zero_mul, Nat.add_zero] at c0 c1 c2
  have hX0 : ∀ k, Bx X W.heap.size k → k < V0.heap.size := fun k hk => by
    rcases hk with hk | hk
    · have := hX k hk; omega
    · omega
  have hll : (0 : Int) < (l.length : Int) := by omega
  have hPF : PV3 (Bx X W.heap.size) s.fns.length s.cells.length V0 l[0] [a0, a1, a2] := ⟨_, _, _, rfl, hsub⟩
  obtain ⟨k1, n1, A1, l1, d1, rfl, rfl, rfl⟩ := hsub.shape
  obtain ⟨Af, cf, xs, hcb, hxs, hrow, -⟩ := hg0.celL
  have hlt := own_lt h
  have HP := Lib.hid (fun (V : World) (v : Value) (hb : Below V0.heap.size V0 V) (hown : V.ownsRow V0.heap.size 65 3 v (s.cells.length + 1) (xs ++ [.int .i64 k1, .int .i64 n1, .slice A1 l1 d1])) =>
    ROut.box' (X := X) (fuel := fuel) (s1 := s) (o := (.val (.ref s.cells.length), { s with cells := s.cells ++ [l[0]] })) (W := W) (W1 := V0) (W2 := (V.setCell ⟨mb, 5, none⟩ v)) (b := W.heap.size) h.hX h.hBW (own_lt h) (Nat.le_refl _) hbx (Stp.below hb1 h.hBW) ⟨Nat.le_refl _, Nat.le_refl _⟩
      (show ROut (Bx X W.heap.size) B mb cb inp fuel s (.val (.ref s.cells.length), { s with cells := s.cells ++ [l[0]] }) V0 (.returned (.agg #[.int .i64 4, .int .i64 (s.cells.length : Int), .slice none 0 0])) (V.setCell ⟨mb, 5, none⟩ v) from by
        obtain ⟨r1, r2⟩ := hg0.cel_ hX0 hlim hb hxs hPF hown
        exact ⟨r2, ⟨Nat.le_refl _, by simp⟩, _, _, _, _, _, rfl, r1, .ref _ (by simp)⟩))
  have hone := hxs.one (fun a c h => h.one)
  have hlen := hxs.len
  have hfb := h.fuelB
  have hlb := h.limB
  have hnb : s.cells.length ≤ 1000000000 := by omega
  obtain ⟨inf0, hinf, hz0, hz1, hz2⟩ := info_parts Tryd.infoV
  obtain ⟨o, ho⟩ : ∃ o : Out, (.val (.ref s.cells.length), { s with cells := s.cells ++ [l[0]] }) = o := ⟨_, rfl⟩
  rw [ho] at HP ⊢
  clear ho
  have hmf := hg0.cells.2.2.2.2.2.2.2.2.2.1
  have hmlt : mb < V0.heap.size := (own_lt hg0).1
  have hblt : bb < V0.heap.size := lt_of_cell c1
  clear h hX hlim hxs hPF hlb hfb hg0 hX0 hb1 hbx hv hv0 hsub
  generalize l.length = kl at *
  have hkl0 : 0 < kl := by omega
  generalize s.cells.length = n at *
  have HS := Lib.hid (fun (V : World) (hb : Below V0.heap.size V0 V) => (show V.cell? ⟨mb, 5, none⟩ = some (.slice Af n cf) ∧ V.cell? ⟨bb, oo, none⟩ = some (.int .i64 k1) ∧ V.cell? ⟨bb, oo + 1, none⟩ = some (.int .i64 n1) ∧ V.cell? ⟨bb, oo + 2, none⟩ = some (.slice A1 l1 d1) from ⟨cell_behind hb hcb, cell_behind hb c0, cell_behind hb c1, cell_behind hb c2⟩))
  have HR := Lib.hid (fun (V : World) (hb : Below V0.heap.size V0 V) => hrow.below hb)
  have HB0 := Lib.hid (show Below V0.heap.size V0 V0 from (Below.refl _ _))
  have HF := Lib.hid (fun (V : World) (hb : Below V0.heap.size V0 V) => (show V.frozen? ⟨mb, 5, none⟩ = false from (hb.frozen (p := ⟨mb, 5, none⟩) hmlt).trans (hmf 5)))
  clear hrow hmf
  go_enter Tryd.func75, Tryd.ntmps75
  go_wp2_with fail
  clear hV0
  have HBa := Lib.hid (below_al1 V0 (.cells #[] 65)).drew
  have HBb := Lib.hid (below_al2 V0 (.cells #[] 65) (.cells #[.int .i64 k1, .int .i64 n1, .slice A1 l1 d1] 65)).drew
  have HBc := Lib.hid (below_al2 V0 (.cells #[.int .i64 k1, .int .i64 n1, .slice A1 l1 d1] 65) (.cells #[] 65)).drew
  have HBd := Lib.hid (below_al1 V0 (.cells #[.int .i64 k1, .int .i64 n1, .slice A1 l1 d1] 65)).drew
  have HOa := Lib.hid (World.ownsRow.drew (own_empty V0 (Nat.le_refl _) 65 3))
  have HOb := Lib.hid (World.ownsRow.drew (World.ownsRow.alloc (own_empty V0 (Nat.le_refl _) 65 3) (.cells #[.int .i64 k1, .int .i64 n1, .slice A1 l1 d1] 65)))
  have HOc := Lib.hid (show (((V0.alloc (.cells #[.int .i64 k1, .int .i64 n1, .slice A1 l1 d1] 65)).alloc (.cells #[] 65)).drew).ownsRow V0.heap.size 65 3 (.slice (some ⟨V0.heap.size + 1, 0, none⟩) 0 0) 0 [] from by
    have e := World.ownsRow.drew (own_empty (V0.alloc (.cells #[.int .i64 k1, .int .i64 n1, .slice A1 l1 d1] 65)) (base := V0.heap.size) (by simp) 65 3)
    rwa [World.size_alloc] at e)
  have HGb := Lib.hid (fun (w1 : World) (hg : (((V0.alloc (.cells #[] 65)).alloc (.cells #[.int .i64 k1, .int .i64 n1, .slice A1 l1 d1] 65)).drew).grownBy w1 (Value.ownBlock (.slice (some ⟨V0.heap.size, 0, none⟩) 0 0))) => rowOf_block ((hg.block (V0.heap.size + 1) (by show V0.heap.size + 1 < ((V0.alloc (.cells #[] 65)).alloc (.cells #[.int .i64 k1, .int .i64 n1, .slice A1 l1 d1] 65)).heap.size; simp) (by simp [Value.ownBlock])).trans (new2 V0 _ _)))
  have HGc := Lib.hid (fun (w1 : World) (hg : (((V0.alloc (.cells #[.int .i64 k1, .int .i64 n1, .slice A1 l1 d1] 65)).alloc (.cells #[] 65)).drew).grownBy w1 (Value.ownBlock (.slice (some ⟨V0.heap.size + 1, 0, none⟩) 0 0))) => rowOf_block ((hg.block V0.heap.size  (by show V0.heap.size < ((V0.alloc (.cells #[.int .i64 k1, .int .i64 n1, .slice A1 l1 d1] 65)).alloc (.cells #[] 65)).heap.size; simp; omega) (by simp [Value.ownBlock])).trans (((below_al1 _ (.cells #[] 65)).block V0.heap.size (by simp)).trans (new1 V0 (.cells #[.int .i64 k1, .int .i64 n1, .slice A1 l1 d1] 65)))))
  have hone2 : ∀ u ∈ ([.int .i64 k1, .int .i64 n1, .slice A1 l1 d1] : List Value), u.oneCell' = true := by simp [Value.oneCell']
  obtain ⟨h0, h1, h2, h3⟩ := HS.out V0 HB0.out
  have k0 := HF.out V0 HB0.out
  have hw1 : IntKind.i64.wrap (n : Int) = (n : Int) := by rw [IntKind.wrap_i64]; omega
  have hw2 : IntKind.i64.wrap ((n : Int) + 1 - 1) = (n : Int) := by rw [IntKind.wrap_i64]; omega
  go_region_law ((first
      | (rw [if_pos (by rfl)]; refine wp_append_row _ _ _ 63 rfl V0.heap.size 65 inf0 _ 3 40 Tryd.underlying63 hinf hz0 hz1 hz2 rfl (by decide) _ 0 [] rfl HOa.out Af n cf xs rfl hlen (HR.out _ HBa.out) hone (by simp only [maxLen]; omega) (by omega) (Nat.le_trans (Nat.le_refl _) HBa.out.size) ?_; intro v1 w1 hown1 hgr1 hat1; have HB1 := Lib.hid (grown_below HBa.out hgr1 (own_ge HOa.out)); have hown1' := own_size (show n = 0 + n by omega) hown1; clear hown1 hat1; obtain ⟨Ay, ny, cy, rfl⟩ := own_shape hown1'; obtain ⟨i0, i1, i2, i3⟩ := HS.out w1 HB1.out; have hc1 : mb < w1.heap.size := Nat.lt_of_lt_of_le hmlt HB1.out.size; have hw1 : bb < w1.heap.size := Nat.lt_of_lt_of_le hblt HB1.out.size)
      | (rw [if_pos (by rfl)]; refine wp_append_row _ _ _ 63 rfl V0.heap.size 65 inf0 _ 3 40 Tryd.underlying63 hinf hz0 hz1 hz2 rfl (by decide) _ 0 [] rfl HOb.out Af n cf xs rfl hlen (HR.out _ HBb.out) hone (by simp only [maxLen]; omega) (by omega) (Nat.le_trans (Nat.le_refl _) HBb.out.size) ?_; intro v1 w1 hown1 hgr1 hat1; have HB1 := Lib.hid (grown_below HBb.out hgr1 (own_ge HOb.out)); have HF1 := Lib.hid (HGb.out _ hgr1); have hown1' := own_size (show n = 0 + n by omega) hown1; clear hown1 hat1; obtain ⟨Ay, ny, cy, rfl⟩ := own_shape hown1'; obtain ⟨i0, i1, i2, i3⟩ := HS.out w1 HB1.out; have hc1 : mb < w1.heap.size := Nat.lt_of_lt_of_le hmlt HB1.out.size; have hw1 : bb < w1.heap.size := Nat.lt_of_lt_of_le hblt HB1.out.size)
      | (rw [if_pos (by rfl)]; refine wp_append_row _ _ _ 63 rfl V0.heap.size 65 inf0 _ 3 40 Tryd.underlying63 hinf hz0 hz1 hz2 rfl (by decide) _ 0 [] rfl HOc.out Af n cf xs rfl hlen (HR.out _ HBc.out) hone (by simp only [maxLen]; omega) (by omega) (Nat.le_trans (Nat.le_refl _) HBc.out.size) ?_; intro v1 w1 hown1 hgr1 hat1; have HB1 := Lib.hid (grown_below HBc.out hgr1 (own_ge HOc.out)); have HF1 := Lib.hid (HGc.out _ hgr1); have hown1' := own_size (show n = 0 + n by omega) hown1; clear hown1 hat1; obtain ⟨Ay, ny, cy, rfl⟩ := own_shape hown1'; obtain ⟨i0, i1, i2, i3⟩ := HS.out w1 HB1.out; have hc1 : mb < w1.heap.size := Nat.lt_of_lt_of_le hmlt HB1.out.size; have hw1 : bb < w1.heap.size := Nat.lt_of_lt_of_le hblt HB1.out.size)
      | (rw [if_pos (by rfl)]; refine wp_append_row _ _ _ 63 rfl V0.heap.size 65 inf0 _ 3 40 Tryd.underlying63 hinf hz0 hz1 hz2 rfl (by decide) _ n xs rfl (World.ownsRow.alloc hown1' _) _ 1 1 [.int .i64 k1, .int .i64 n1, .slice A1 l1 d1] rfl rfl (rowOf_block (new1 w1 (.cells #[.int .i64 k1, .int .i64 n1, .slice A1 l1 d1] 65))) hone2 (by simp only [maxLen]; omega) (by omega) (HB1.out.alloc HB1.out.size (.cells #[.int .i64 k1, .int .i64 n1, .slice A1 l1 d1] 65)).size ?_; intro v2 w2 hown2 hgr2 hat2; have HB2 := Lib.hid (grown_below (HB1.out.alloc HB1.out.size (.cells #[.int .i64 k1, .int .i64 n1, .slice A1 l1 d1] 65)) hgr2 (own_ge hown1')); clear hat2; obtain ⟨g2, c2, rfl, -⟩ := own_cell hown2 (by omega); have kf := HF.out w2 HB2.out; have kc := (HS.out w2 HB2.out).1; have HOW := Lib.hid hown2; clear hown2 hgr2)
      | (rw [if_pos (by rfl)]; refine wp_append_row _ _ _ 63 rfl V0.heap.size 65 inf0 _ 3 40 Tryd.underlying63 hinf hz0 hz1 hz2 rfl (by decide) _ n xs rfl (World.ownsRow.drew hown1') _ 1 1 [.int .i64 k1, .int .i64 n1, .slice A1 l1 d1] rfl rfl HF1.out hone2 (by simp only [maxLen]; omega) (by omega) HB1.out.drew.size ?_; intro v2 w2 hown2 hgr2 hat2; have HB2 := Lib.hid (grown_below HB1.out.drew hgr2 (own_ge hown1')); clear hat2; obtain ⟨g2, c2, rfl, -⟩ := own_cell hown2 (by omega); have kf := HF.out w2 HB2.out; have kc := (HS.out w2 HB2.out).1; have HOW := Lib.hid hown2; clear hown2 hgr2)
      | (rw [if_pos (by rfl)]; refine wp_append_row _ _ _ 63 rfl V0.heap.size 65 inf0 _ 3 40 Tryd.underlying63 hinf hz0 hz1 hz2 rfl (by decide) _ n xs rfl hown1' _ 1 1 [.int .i64 k1, .int .i64 n1, .slice A1 l1 d1] rfl rfl HF1.out hone2 (by simp only [maxLen]; omega) (by omega) HB1.out.size ?_; intro v2 w2 hown2 hgr2 hat2; have HB2 := Lib.hid (grown_below HB1.out hgr2 (own_ge hown1')); clear hat2; obtain ⟨g2, c2, rfl, -⟩ := own_cell hown2 (by omega); have kf := HF.out w2 HB2.out; have kc := (HS.out w2 HB2.out).1; have HOW := Lib.hid hown2; clear hown2 hgr2)))
  all_goals
    obtain ⟨⟨f0, f1, f2, ff⟩, hR⟩ := HP.out _ _ HB2.out HOW.out
    have HRR := Lib.hid hR
    have hcc : (w2.setCell ⟨mb, 5, none⟩ (.slice (some ⟨g2, 0, none⟩) (n + 1) c2)).cell? ⟨mb, 5, none⟩ = some (.slice (some ⟨g2, 0, none⟩) (n + 1) c2) := cell_same kc _
    clear hR kf kc HB1 HB2 HOW hown1'
    generalize (w2.setCell ⟨mb, 5, none⟩ (.slice (some ⟨g2, 0, none⟩) (n + 1) c2)) = V' at *
    go_wp2_with fail
    exact bodyPost_ret (v := (.agg #[.int .i64 4, .int .i64 (n : Int), .slice none 0 0])) (by simp [results, Tryd.results75, go_sem, f0, f1, f2]) rfl HRR.out
end
end Go.Proofs.YtnolhcdfknjncaaDoor
