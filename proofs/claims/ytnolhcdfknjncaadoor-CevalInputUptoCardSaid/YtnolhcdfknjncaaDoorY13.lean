/-
  1 texts of this seat in one: V13.
-/
import Derived.Test.YtnolhcdfknjncaaDoorQV
import Derived.Deep.RegionLaw
/-
  The document's run: a function that is made.
-/
set_option linter.unusedVariables false
set_option linter.unusedSimpArgs false
namespace Go.Proofs.YtnolhcdfknjncaaDoor
open Go.RowKit

theorem Tryd.infoFn : (Tryd.prog.info? 108).map (fun i => (i.zero, i.size, i.bytes)) = some (some (.agg #[.int .i64 0, .int .i64 0, .int .i64 0, .slice none 0 0, .slice none 0 0, .pointer none]), 6, 80) := by kernel_rfl
theorem Tryd.infoV : (Tryd.prog.info? 65).map (fun i => (i.zero, i.size, i.bytes)) = some (some (.agg #[.int .i64 0, .int .i64 0, .slice none 0 0]), 3, 40) := by kernel_rfl
section
variable {X Y : Nat → Prop} {B mb cb : Nat} {inp : List Int} {fuel : FL} {s s1 : St} {cut stk rai : Bool} {x0 x1 x2 : Value} {W W' W1 W2 : World} {o : Out}
/-- a literal's row, an append's row: behind what is done besides -/
theorem own_empty (w : World) {base : Nat} (h : base ≤ w.heap.size) (e : TypeId) (size : Nat) : (w.alloc (.cells #[] e)).ownsRow base e size (.slice (some ⟨w.heap.size, 0, none⟩) 0 0) 0 [] := World.ownsRow_lit w #[] 0 h (by simp [maxLen]) (by simp)
theorem own_size {w : World} {base : Nat} {e : TypeId} {size n m : Nat} {v : Value} {xs : List Value} (hn : m = n) (h : w.ownsRow base e size v n ([] ++ xs)) : w.ownsRow base e size v m xs := by subst hn; simpa using h
theorem cell_same {w : World} {a : Addr} {u : Value} (h : w.cell? a = some u) (v : Value) : (w.setCell a v).cell? a = some v := by
  first | exact World.cell?_setCell_same h | exact World.cell?_setCell_same _ _ _ h | exact World.cell?_setCell_same w a v h
theorem own_mono {w : World} {base base' : Nat} {e : TypeId} {size n : Nat} {v : Value} {xs : List Value} (h : w.ownsRow base e size v n xs) (hb : base' ≤ base) : w.ownsRow base' e size v n xs :=
  ⟨h.1, h.2.imp id (fun ⟨g, cap, cur, a, b, c⟩ => ⟨g, cap, cur, a, Nat.le_trans hb b, c⟩)⟩
theorem own_shape {w : World} {base : Nat} {e : TypeId} {size : Nat} {v : Value} {n : Nat} {xs : List Value} (h : w.ownsRow base e size v n xs) : ∃ A k c, v = .slice A k c := by
  rcases h.2 with ⟨rfl, _⟩ | ⟨g, cap, cur, rfl, _⟩ <;> exact ⟨_, _, _, rfl⟩
theorem below_al1 (w : World) (o : Obj) : Below w.heap.size w (w.alloc o) := (Below.refl _ _).alloc (Nat.le_refl _) o
theorem below_al2 (w : World) (o p : Obj) : Below w.heap.size w ((w.alloc o).alloc p) := (below_al1 w o).alloc (below_al1 w o).size p
/-- the cells of a block -/
theorem rowOf_block {w : World} {b : Nat} {cs : Array Value} {T : TypeId} {fr : Nat × Nat} (h : w.heap[b]? = some (.cells cs T fr)) : RowOf w (some ⟨b, 0, none⟩) cs.toList :=
  .inr ⟨_, rfl, fun j u hj => by rw [add_plain]; simp [World.cell?, h]; simpa using hj⟩

set_option maxRecDepth 100000 in
set_option maxHeartbeats 1000000 in
theorem rfn_any (h : RGo X B mb cb inp fuel s W) (hX : ∀ k, X k → k < W.heap.size) (hlim : s.fns.length + 1 + 1000 * s.left ≤ 1000 * fuel.lim) {f : PFn} {g1 g2 g3 g4 g5 : Value}
    (hc : CoreIn B W f.body #[g1, g2, g3, g4]) (hs : SmallT f.body) (he : EIn X s.fns.length s.cells.length W f.env g5) :
    Calls Tryd.prog 48 #[.pointer (some ⟨cb, 0, none⟩), .agg #[.int .i64 f.param, g1, g2, g3, g4, g5]] W (ROut X B mb cb inp fuel s (.val (.fn s.fns.length), { s with fns := s.fns ++ [f] }) W) := by
  obtain ⟨pq, rfl⟩ := he.shape
  obtain ⟨ck, cn, cks, ccs, Ak, cak, Ac, cac, -, -, -, -, -, -, -, hv, -⟩ := hc.open_
  simp only [Array.mk.injEq, List.cons.injEq, and_true] at hv
  obtain ⟨rfl, rfl, rfl, rfl⟩ := hv
  have hb0 := below_al2 W (.cells #[.int .i64 f.param, .int .i64 ck, .int .i64 cn, .slice Ak cks.length cak, .slice Ac ccs.length cac, .pointer pq] 108) (.cells #[.int .i64 0, .int .i64 0, .slice none 0 0] 65)
  have hbox : (W.alloc (.cells #[.int .i64 f.param, .int .i64 ck, .int .i64 cn, .slice Ak cks.length cak, .slice Ac ccs.length cac, .pointer pq] 108)).heap[W.heap.size]? = _ := new1 _ _
  replace hbox := ((below_al1 _ (.cells #[.int .i64 0, .int .i64 0, .slice none 0 0] 65)).block W.heap.size (by simp)).trans hbox
  have hbx : ((W.alloc (.cells #[.int .i64 f.param, .int .i64 ck, .int .i64 cn, .slice Ak cks.length cak, .slice Ac ccs.length cac, .pointer pq] 108)).alloc (.cells #[.int .i64 0, .int .i64 0, .slice none 0 0] 65)).heap[W.heap.size + 1]? = some (.cells #[.int .i64 0, .int .i64 0, .slice none 0 0] 65 (0, 0)) := new2 _ _ _
  have hsz : W.heap.size + 1 < ((W.alloc (.cells #[.int .i64 f.param, .int .i64 ck, .int .i64 cn, .slice Ak cks.length cak, .slice Ac ccs.length cac, .pointer pq] 108)).alloc (.cells #[.int .i64 0, .int .i64 0, .slice none 0 0] 65)).heap.size := by simp
  generalize hV0 : ((W.alloc (.cells #[.int .i64 f.param, .int .i64 ck, .int .i64 cn, .slice Ak cks.length cak, .slice Ac ccs.length cac, .pointer pq] 108)).alloc (.cells #[.int .i64 0, .int .i64 0, .slice none 0 0] 65)) = V0 at *
  have hg0 : RGo (Bx X (W.heap.size + 1)) B mb cb inp fuel s V0 := (RIn.bx h (by omega)).below hb0
  have hX0 : ∀ k, Bx X (W.heap.size + 1) k → k < V0.heap.size := fun k hk => by
    rcases hk with hk | hk
    · have := hX k hk; omega
    · omega
  obtain ⟨Af, cf, xs, hcb, hxs, hrow⟩ := hg0.fnsL
  have hPF : PF6 B (Bx X (W.heap.size + 1)) s.fns.length s.cells.length V0 f [.int .i64 f.param, .int .i64 ck, .int .i64 cn, .slice Ak cks.length cak, .slice Ac ccs.length cac, .pointer pq] :=
    ⟨_, _, _, _, _, rfl, hc.kept (hb0.mono h.hBW), hs, (he.bx (b := W.heap.size + 1) (by omega)).step (KpX.below hb0) (Nat.le_refl _) (Nat.le_refl _)⟩
  have hlt := own_lt h
  have HP := Lib.hid (fun (V : World) (v : Value) (hb : Below V0.heap.size V0 V) (hown : V.ownsRow V0.heap.size 108 6 v (s.fns.length + 1) (xs ++ [.int .i64 f.param, .int .i64 ck, .int .i64 cn, .slice Ak cks.length cak, .slice Ac ccs.length cac, .pointer pq])) =>
    ROut.box' (X := X) (fuel := fuel) (s1 := s) (o := (.val (.fn s.fns.length), { s with fns := s.fns ++ [f] })) (W := W) (W1 := V0) (W2 := (V.setCell ⟨cb, 1, none⟩ v)) (b := W.heap.size + 1) h.hX h.hBW (own_lt h) (by omega) hbx (Stp.below hb0 h.hBW) ⟨Nat.le_refl _, Nat.le_refl _⟩
      (show ROut (Bx X (W.heap.size + 1)) B mb cb inp fuel s (.val (.fn s.fns.length), { s with fns := s.fns ++ [f] }) V0 (.returned (.agg #[.int .i64 3, .int .i64 (s.fns.length : Int), .slice none 0 0])) (V.setCell ⟨cb, 1, none⟩ v) from by
        obtain ⟨r1, r2⟩ := hg0.fns_ hX0 hlim hb hxs hPF hown
        exact ⟨r2, ⟨by simp, Nat.le_refl _⟩, _, _, _, _, _, rfl, r1, .fn _ (by simp)⟩))
  have hone := hxs.one (fun a c h => h.one)
  have hlen := hxs.len
  have hfb := h.fuelB
  have hlb := h.limB
  have hn : s.fns.length ≤ 1000000000 := by omega
  obtain ⟨inf0, hinf, hz0, hz1, hz2⟩ := info_parts Tryd.infoFn
  obtain ⟨o, ho⟩ : ∃ o : Out, (.val (.fn s.fns.length), { s with fns := s.fns ++ [f] }) = o := ⟨_, rfl⟩
  rw [ho] at HP ⊢
  have hlt : mb < W.heap.size ∧ cb < W.heap.size := hlt
  clear h hX hlim hc hs he hxs hPF hlb hfb hg0 hX0 ho hb0 hbx
  generalize f.param = fp at *
  generalize cks.length = kl at *
  generalize ccs.length = cl at *
  generalize s.fns.length = n at *
  have HS := Lib.hid (fun (V : World) (hb : Below V0.heap.size V0 V) => (show V.cell? ⟨cb, 1, none⟩ = some (.slice Af n cf) ∧ V.cell? ⟨W.heap.size, 0, none⟩ = some (.int .i64 fp) ∧ V.cell? ⟨W.heap.size, 1, none⟩ = some (.int .i64 ck) ∧ V.cell? ⟨W.heap.size, 2, none⟩ = some (.int .i64 cn) ∧ V.cell? ⟨W.heap.size, 3, none⟩ = some (.slice Ak kl cak) ∧ V.cell? ⟨W.heap.size, 4, none⟩ = some (.slice Ac cl cac) ∧ V.cell? ⟨W.heap.size, 5, none⟩ = some (.pointer pq) from by
    have e1 := (hb.block cb (by omega)).trans hcb
    have e2 := (hb.block W.heap.size (by omega)).trans hbox
    exact ⟨by simp [World.cell?, e1], by simp [World.cell?, e2], by simp [World.cell?, e2], by simp [World.cell?, e2], by simp [World.cell?, e2], by simp [World.cell?, e2], by simp [World.cell?, e2]⟩))
  have HR := Lib.hid (fun (V : World) (hb : Below V0.heap.size V0 V) => hrow.below hb)
  have HB0 := Lib.hid (show Below V0.heap.size V0 V0 from (Below.refl _ _))
  have HF := Lib.hid (fun (V : World) (hb : Below V0.heap.size V0 V) => (show V.frozen? ⟨cb, 1, none⟩ = false from by
    have e1 := (hb.block cb (by omega)).trans hcb
    simp [World.frozen?, e1]))
  go_enter Tryd.func48, Tryd.ntmps48
  go_wp2_with fail
  clear hbox hV0 hcb hrow
  have HBa := Lib.hid (below_al1 V0 (.cells #[] 108)).drew
  have HBb := Lib.hid (below_al2 V0 (.cells #[] 108) (.cells #[.int .i64 fp, .int .i64 ck, .int .i64 cn, .slice Ak kl cak, .slice Ac cl cac, .pointer pq] 108)).drew
  have HBc := Lib.hid (below_al2 V0 (.cells #[.int .i64 fp, .int .i64 ck, .int .i64 cn, .slice Ak kl cak, .slice Ac cl cac, .pointer pq] 108) (.cells #[] 108)).drew
  have HBd := Lib.hid (below_al1 V0 (.cells #[.int .i64 fp, .int .i64 ck, .int .i64 cn, .slice Ak kl cak, .slice Ac cl cac, .pointer pq] 108)).drew
  have HOa := Lib.hid (World.ownsRow.drew (own_empty V0 (Nat.le_refl _) 108 6))
  have HOb := Lib.hid (World.ownsRow.drew (World.ownsRow.alloc (own_empty V0 (Nat.le_refl _) 108 6) (.cells #[.int .i64 fp, .int .i64 ck, .int .i64 cn, .slice Ak kl cak, .slice Ac cl cac, .pointer pq] 108)))
  have HOc := Lib.hid (show (((V0.alloc (.cells #[.int .i64 fp, .int .i64 ck, .int .i64 cn, .slice Ak kl cak, .slice Ac cl cac, .pointer pq] 108)).alloc (.cells #[] 108)).drew).ownsRow V0.heap.size 108 6 (.slice (some ⟨V0.heap.size + 1, 0, none⟩) 0 0) 0 [] from by
    have e := World.ownsRow.drew (own_empty (V0.alloc (.cells #[.int .i64 fp, .int .i64 ck, .int .i64 cn, .slice Ak kl cak, .slice Ac cl cac, .pointer pq] 108)) (base := V0.heap.size) (by simp) 108 6)
    rwa [World.size_alloc] at e)
  have HGb := Lib.hid (fun (w1 : World) (hg : (((V0.alloc (.cells #[] 108)).alloc (.cells #[.int .i64 fp, .int .i64 ck, .int .i64 cn, .slice Ak kl cak, .slice Ac cl cac, .pointer pq] 108)).drew).grownBy w1 (Value.ownBlock (.slice (some ⟨V0.heap.size, 0, none⟩) 0 0))) => rowOf_block ((hg.block (V0.heap.size + 1) (by show V0.heap.size + 1 < ((V0.alloc (.cells #[] 108)).alloc (.cells #[.int .i64 fp, .int .i64 ck, .int .i64 cn, .slice Ak kl cak, .slice Ac cl cac, .pointer pq] 108)).heap.size; simp) (by simp [Value.ownBlock])).trans (new2 V0 _ _)))
  have HGc := Lib.hid (fun (w1 : World) (hg : (((V0.alloc (.cells #[.int .i64 fp, .int .i64 ck, .int .i64 cn, .slice Ak kl cak, .slice Ac cl cac, .pointer pq] 108)).alloc (.cells #[] 108)).drew).grownBy w1 (Value.ownBlock (.slice (some ⟨V0.heap.size + 1, 0, none⟩) 0 0))) => rowOf_block ((hg.block V0.heap.size  (by show V0.heap.size < ((V0.alloc (.cells #[.int .i64 fp, .int .i64 ck, .int .i64 cn, .slice Ak kl cak, .slice Ac cl cac, .pointer pq] 108)).alloc (.cells #[] 108)).heap.size; simp; omega) (by simp [Value.ownBlock])).trans (((below_al1 _ (.cells #[] 108)).block V0.heap.size (by simp)).trans (new1 V0 (.cells #[.int .i64 fp, .int .i64 ck, .int .i64 cn, .slice Ak kl cak, .slice Ac cl cac, .pointer pq] 108)))))
  have hone2 : ∀ u ∈ ([.int .i64 fp, .int .i64 ck, .int .i64 cn, .slice Ak kl cak, .slice Ac cl cac, .pointer pq] : List Value), u.oneCell' = true := by simp [Value.oneCell']
  obtain ⟨h0, h1, h2, h3, h4, h5, h6⟩ := HS.out V0 HB0.out
  have k0 := HF.out V0 HB0.out
  have hc0 : cb < V0.heap.size := by omega
  have hw0 : W.heap.size < V0.heap.size := by omega
  have hw1 : IntKind.i64.wrap (n : Int) = (n : Int) := by rw [IntKind.wrap_i64]; omega
  have hw2 : IntKind.i64.wrap ((n : Int) + 1 - 1) = (n : Int) := by rw [IntKind.wrap_i64]; omega
  go_region_law ((first
      | (rw [if_pos (by rfl)]; refine wp_append_row _ _ _ 59 rfl V0.heap.size 108 inf0 _ 6 80 Tryd.underlying59 hinf hz0 hz1 hz2 rfl (by decide) _ 0 [] rfl HOa.out Af n cf xs rfl hlen (HR.out _ HBa.out) hone (by simp only [maxLen]; omega) (by omega) (Nat.le_trans (Nat.le_refl _) HBa.out.size) ?_; intro v1 w1 hown1 hgr1 hat1; have HB1 := Lib.hid (grown_below HBa.out hgr1 (own_ge HOa.out)); have hown1' := own_size (show n = 0 + n by omega) hown1; clear hown1 hat1; obtain ⟨A1, n1, c1, rfl⟩ := own_shape hown1'; obtain ⟨i0, i1, i2, i3, i4, i5, i6⟩ := HS.out w1 HB1.out; have hc1 : cb < w1.heap.size := Nat.lt_of_lt_of_le hc0 HB1.out.size; have hw1 : W.heap.size < w1.heap.size := Nat.lt_of_lt_of_le hw0 HB1.out.size)
      | (rw [if_pos (by rfl)]; refine wp_append_row _ _ _ 59 rfl V0.heap.size 108 inf0 _ 6 80 Tryd.underlying59 hinf hz0 hz1 hz2 rfl (by decide) _ 0 [] rfl HOb.out Af n cf xs rfl hlen (HR.out _ HBb.out) hone (by simp only [maxLen]; omega) (by omega) (Nat.le_trans (Nat.le_refl _) HBb.out.size) ?_; intro v1 w1 hown1 hgr1 hat1; have HB1 := Lib.hid (grown_below HBb.out hgr1 (own_ge HOb.out)); have HF1 := Lib.hid (HGb.out _ hgr1); have hown1' := own_size (show n = 0 + n by omega) hown1; clear hown1 hat1; obtain ⟨A1, n1, c1, rfl⟩ := own_shape hown1'; obtain ⟨i0, i1, i2, i3, i4, i5, i6⟩ := HS.out w1 HB1.out; have hc1 : cb < w1.heap.size := Nat.lt_of_lt_of_le hc0 HB1.out.size; have hw1 : W.heap.size < w1.heap.size := Nat.lt_of_lt_of_le hw0 HB1.out.size)
      | (rw [if_pos (by rfl)]; refine wp_append_row _ _ _ 59 rfl V0.heap.size 108 inf0 _ 6 80 Tryd.underlying59 hinf hz0 hz1 hz2 rfl (by decide) _ 0 [] rfl HOc.out Af n cf xs rfl hlen (HR.out _ HBc.out) hone (by simp only [maxLen]; omega) (by omega) (Nat.le_trans (Nat.le_refl _) HBc.out.size) ?_; intro v1 w1 hown1 hgr1 hat1; have HB1 := Lib.hid (grown_below HBc.out hgr1 (own_ge HOc.out)); have HF1 := Lib.hid (HGc.out _ hgr1); have hown1' := own_size (show n = 0 + n by omega) hown1; clear hown1 hat1; obtain ⟨A1, n1, c1, rfl⟩ := own_shape hown1'; obtain ⟨i0, i1, i2, i3, i4, i5, i6⟩ := HS.out w1 HB1.out; have hc1 : cb < w1.heap.size := Nat.lt_of_lt_of_le hc0 HB1.out.size; have hw1 : W.heap.size < w1.heap.size := Nat.lt_of_lt_of_le hw0 HB1.out.size)
      | (rw [if_pos (by rfl)]; refine wp_append_row _ _ _ 59 rfl V0.heap.size 108 inf0 _ 6 80 Tryd.underlying59 hinf hz0 hz1 hz2 rfl (by decide) _ n xs rfl (World.ownsRow.alloc hown1' _) _ 1 1 [.int .i64 fp, .int .i64 ck, .int .i64 cn, .slice Ak kl cak, .slice Ac cl cac, .pointer pq] rfl rfl (rowOf_block (new1 w1 (.cells #[.int .i64 fp, .int .i64 ck, .int .i64 cn, .slice Ak kl cak, .slice Ac cl cac, .pointer pq] 108))) hone2 (by simp only [maxLen]; omega) (by omega) (HB1.out.alloc HB1.out.size (.cells #[.int .i64 fp, .int .i64 ck, .int .i64 cn, .slice Ak kl cak, .slice Ac cl cac, .pointer pq] 108)).size ?_; intro v2 w2 hown2 hgr2 hat2; have HB2 := Lib.hid (grown_below (HB1.out.alloc HB1.out.size (.cells #[.int .i64 fp, .int .i64 ck, .int .i64 cn, .slice Ak kl cak, .slice Ac cl cac, .pointer pq] 108)) hgr2 (own_ge hown1')); clear hat2; obtain ⟨g2, c2, rfl, -⟩ := own_cell hown2 (by omega); have kf := HF.out w2 HB2.out; have kc := (HS.out w2 HB2.out).1; have HOW := Lib.hid hown2; clear hown2 hgr2)
      | (rw [if_pos (by rfl)]; refine wp_append_row _ _ _ 59 rfl V0.heap.size 108 inf0 _ 6 80 Tryd.underlying59 hinf hz0 hz1 hz2 rfl (by decide) _ n xs rfl (World.ownsRow.drew hown1') _ 1 1 [.int .i64 fp, .int .i64 ck, .int .i64 cn, .slice Ak kl cak, .slice Ac cl cac, .pointer pq] rfl rfl HF1.out hone2 (by simp only [maxLen]; omega) (by omega) HB1.out.drew.size ?_; intro v2 w2 hown2 hgr2 hat2; have HB2 := Lib.hid (grown_below HB1.out.drew hgr2 (own_ge hown1')); clear hat2; obtain ⟨g2, c2, rfl, -⟩ := own_cell hown2 (by omega); have kf := HF.out w2 HB2.out; have kc := (HS.out w2 HB2.out).1; have HOW := Lib.hid hown2; clear hown2 hgr2)
      | (rw [if_pos (by rfl)]; refine wp_append_row _ _ _ 59 rfl V0.heap.size 108 inf0 _ 6 80 Tryd.underlying59 hinf hz0 hz1 hz2 rfl (by decide) _ n xs rfl hown1' _ 1 1 [.int .i64 fp, .int .i64 ck, .int .i64 cn, .slice Ak kl cak, .slice Ac cl cac, .pointer pq] rfl rfl HF1.out hone2 (by simp only [maxLen]; omega) (by omega) HB1.out.size ?_; intro v2 w2 hown2 hgr2 hat2; have HB2 := Lib.hid (grown_below HB1.out hgr2 (own_ge hown1')); clear hat2; obtain ⟨g2, c2, rfl, -⟩ := own_cell hown2 (by omega); have kf := HF.out w2 HB2.out; have kc := (HS.out w2 HB2.out).1; have HOW := Lib.hid hown2; clear hown2 hgr2)))
  all_goals
    obtain ⟨⟨f0, f1, f2, ff⟩, hR⟩ := HP.out _ _ HB2.out HOW.out
    have HRR := Lib.hid hR
    have hcc : (w2.setCell ⟨cb, 1, none⟩ (.slice (some ⟨g2, 0, none⟩) (n + 1) c2)).cell? ⟨cb, 1, none⟩ = some (.slice (some ⟨g2, 0, none⟩) (n + 1) c2) := cell_same kc _
    clear hR kf kc HB1 HB2 HOW hown1'
    generalize (w2.setCell ⟨cb, 1, none⟩ (.slice (some ⟨g2, 0, none⟩) (n + 1) c2)) = V' at *
    go_wp2_with fail
    exact bodyPost_ret (v := .agg #[.int .i64 3, .int .i64 (n : Int), .slice none 0 0]) (by simp [results, Tryd.results48, go_sem, f0, f1, f2]) rfl HRR.out
end
end Go.Proofs.YtnolhcdfknjncaaDoor
