/-
 3 texts of this seat in one: FV15 FV16 FV17.
-/
import Derived.Test.YtnobggabjpcbfaaGreatQI24
set_option maxRecDepth 100000
set_option maxHeartbeats 16000000
set_option linter.unusedVariables false
set_option linter.unusedSimpArgs false
namespace Go.Proofs.YtnobggabjpcbfaaGreat
open Go.RowKit
section
variable {X Y : Nat → Prop} {B mb cb : Nat} {fv : Value} {inp : List Int} {fuel : FL} {s s1 : FSt} {cut stk rai : Bool} {x0 x1 x2 : Value} {W W' W1 W2 : World} {o : FOut}
def arithO (p : Int) (a b : PV) (s : FSt) : FOut := match a, b with
 | .int x, .int y => (match doP p x y with | some n => (.val (.int n), s) | none => (.raised (.int 0), s))
 | _, _ => (.stuck, s)
theorem rprim_do (h : RGo X B mb cb fv inp fuel s W) {p : Int} (hp1 : 1 ≤ p) (hp2 : p ≤ 9) {A : Option Addr} {l : List PV} {c : Nat} (hv : VRow X s.made.length s.cells.length W A l) (hl : 1 < l.length) :
 Calls Tryz.prog 72 #[.pointer (some ⟨mb, 0, none⟩), .int .i64 p, .slice A l.length c] W (ROut X B mb cb fv inp fuel s (arithO p l[0] l[1] s) W) := by
 generalize hV0 : (W.alloc (.cells #[.int .i64 0, .int .i64 0, .slice none 0 0] 46)) = V0
 obtain ⟨hb1, hbx, hg0, hsz⟩ := box_world h V0 hV0
 have hv0 := (hv.bx (b := W.heap.size) (by omega)).step (KpX.below hb1) (Nat.le_refl _) (Nat.le_refl _)
 obtain ⟨bb, oo, a0, a1, a2, rfl, c0, c1, c2, hsub⟩ := hv0.at_ (show 0 < l.length by omega)
 obtain ⟨bb', oo', b0, b1, b2, he, d0, d1, d2, hsub2⟩ := hv0.at_ hl
 simp only [Option.some.injEq, Addr.mk.injEq, and_true] at he
 obtain ⟨rfl, rfl⟩ := he
 have HS := Lib.hid ((rstop_any hg0).mono fun e w' hp => ROut.box (W := W) (b := W.heap.size) h.hX h.hBW (own_lt h) (Nat.le_refl _) hbx (Stp.below hb1 h.hBW) ⟨Nat.le_refl _, Nat.le_refl _⟩ (ROut.stop hp))
 obtain ⟨k1, n1, A1, l1, d1', rfl, rfl, rfl, -, -, hi1, hn1, -⟩ := hsub.one_
 obtain ⟨k2, n2, A2, l2, d2', rfl, rfl, rfl, -, -, hi2, hn2, -⟩ := hsub2.one_
 obtain ⟨o, ho⟩ : ∃ o, arithO p l[0] l[1] s = o := ⟨_, rfl⟩
 rw [ho]
 simp only [Nat.zero_mul, Nat.add_zero, Nat.one_mul] at c0 c1 c2 d0 d1 d2
 have hll : (0 : Int) < (l.length : Int) := by omega
 have hll1 : (1 : Int) < (l.length : Int) := by omega
 have q10 : (p == 10) = false := by simp; omega
 have q11 : (p == 11) = false := by simp; omega
 have q12 : (p == 12) = false := by simp; omega
 have q13 : (p == 13) = false := by simp; omega
 have q14 : (p == 14) = false := by simp; omega
 have q15 : (p == 15) = false := by simp; omega
 by_cases hk1 : k1 = 1
 · subst hk1
   by_cases hk2 : k2 = 1
   · subst hk2
     have e1 := hi1 rfl
     have e2 := hi2 rfl
     rw [e1, e2] at ho
     simp only [arithO] at ho
     clear hi1 hn1 hi2 hn2 hsub hsub2 hv hv0 HS e1 e2 hl
     generalize l.length = kl at *
     have hkl0 : 0 < kl := by omega
     have hkl1 : 1 < kl := by omega
     rcases hd : doP p n1 n2 with _ | n
     · obtain rfl : o = (.raised (.int 0), s) := by rw [← ho, hd]
       have HD := Lib.hid (fun w => (rdo_any p n1 n2 hp1 hp2 w).mono fun e w' hp => (show e = .returned (.tuple #[.int .i64 0, .int .i64 2]) ∧ Below w.heap.size w w' from by
        rcases hp with ⟨n, h1, h2⟩ | ⟨h1, h2⟩
        · rw [hd] at h1; cases h1
        · exact h2))
       have HS := Lib.hid (fun (V : World) (hb : Below V0.heap.size V0 V) => (rraise_any (hg0.below hb) (.int 0)).mono fun e w' hp => ROut.box (X := X) (fuel := fuel) (W := W) (b := W.heap.size) (s := s) (o := (.raised (.int 0), s)) h.hX h.hBW (own_lt h) (Nat.le_refl _) ((hb.block _ hsz).trans hbx) (Stp.below (hb1.trans (hb.mono hb1.size)) h.hBW) ⟨Nat.le_refl _, Nat.le_refl _⟩ hp)
       clear h hg0 hbx hb1 hsz hd ho
       go_enter Tryz.func72, Tryz.ntmps72
       go_wp2_with fail
       go_region_law ((first
        | (go_simp; go_at_call 91; refine (HD.out _).mono ?_; rintro e w' ⟨rfl, hbd⟩; have HB := Lib.hid hbd; clear hbd)))
       all_goals
        go_wp2_with (first
         | (go_at_call 73; refine (vint_any _ _).mono ?_; rintro e w2 ⟨rfl, hbi⟩; have HRR := Lib.hid (HS.out _ (((Below.refl V0.heap.size V0).drew.trans HB.out).trans (hbi.mono HB.out.size))))
         | (go_at_call 90; refine HRR.out.mono ?_; rintro e w' ⟨k, n, A, l, d, rfl, ⟨f0, f1, f2, ff⟩, hR⟩; have HR := Lib.hid hR; clear hR))
        exact bodyPost_ret (v := .agg #[.int .i64 k, .int .i64 n, .slice A l d]) (by simp [results, Tryz.results72, go_sem, f0, f1, f2]) rfl HR.out
     · obtain rfl : o = (.val (.int n), s) := by rw [← ho, hd]
       have HD := Lib.hid (fun w => (rdo_any p n1 n2 hp1 hp2 w).mono fun e w' hp => (show e = .returned (.tuple #[.int .i64 n, .int .i64 0]) ∧ Below w.heap.size w w' from by
        rcases hp with ⟨n', h1, h2⟩ | ⟨h1, h2⟩
        · rw [hd] at h1; cases h1; exact h2
        · rw [hd] at h1; cases h1))
       have HP := Lib.hid (fun (V : World) (hb : Below V0.heap.size V0 V) => ROut.box' (X := X) (fuel := fuel) (s1 := s) (o := (.val (.int n), s)) (W := W) (W1 := V0) (W2 := V) (b := W.heap.size) h.hX h.hBW (own_lt h) (Nat.le_refl _) hbx (Stp.below hb1 h.hBW) ⟨Nat.le_refl _, Nat.le_refl _⟩
        (show ROut (Bx X W.heap.size) B mb cb fv inp fuel s (.val (.int n), s) V0 (.returned (.agg #[.int .i64 1, .int .i64 n, .slice none 0 0])) V from
         ⟨Stp.below hb hg0.hBW, ⟨Nat.le_refl _, Nat.le_refl _⟩, _, _, _, _, _, rfl, hg0.below hb, .int _⟩))
       clear h hg0 hbx hb1 hsz hd ho
       go_enter Tryz.func72, Tryz.ntmps72
       go_wp2_with fail
       go_region_law ((first
        | (go_simp; go_at_call 91; refine (HD.out _).mono ?_; rintro e w' ⟨rfl, hbd⟩; have HB := Lib.hid hbd; clear hbd)))
       all_goals
        go_wp2_with (first
         | (go_at_call 73; refine (vint_any _ _).mono ?_; rintro e w2 ⟨rfl, hbi⟩; obtain ⟨⟨f0, f1, f2, ff⟩, hR⟩ := HP.out _ (((Below.refl V0.heap.size V0).drew.trans HB.out).trans (hbi.mono HB.out.size)); have HR := Lib.hid hR; clear hR))
        exact bodyPost_ret (v := .agg #[.int .i64 1, .int .i64 n, .slice none 0 0]) (by simp [results, Tryz.results72, go_sem, f0, f1, f2]) rfl HR.out
   · obtain rfl : o = (.stuck, s) := by
      rw [← ho]
      have := hn2 hk2
      unfold arithO
      split
      · rename_i i j hi hj; exact absurd hj (this j)
      · rfl
     have hk4 : (k2 == 1) = false := by simpa using hk2
     have hk5 : (k2 != 1) = true := by simpa using hk2
     clear h hb1 hbx hg0 hsz hv hv0 hsub hsub2 hi1 hn1 hi2 hn2 ho hk2 hl
     generalize l.length = kl at *
     go_enter Tryz.func72, Tryz.ntmps72
     go_wp2_with (go_at_call 49; refine HS.out.mono ?_; rintro e w' ⟨k, n, A, l, d, rfl, ⟨f0, f1, f2, ff⟩, hR⟩; have HR := Lib.hid hR; clear hR)
     exact bodyPost_ret (v := .agg #[.int .i64 k, .int .i64 n, .slice A l d]) (by simp [results, Tryz.results72, go_sem, f0, f1, f2]) rfl HR.out
 · obtain rfl : o = (.stuck, s) := by
    rw [← ho]
    have := hn1 hk1
    unfold arithO
    split
    · rename_i i j hi hj; exact absurd hi (this i)
    · rfl
   have hk4 : (k1 == 1) = false := by simpa using hk1
   have hk5 : (k1 != 1) = true := by simpa using hk1
   clear h hb1 hbx hg0 hsz hv hv0 hsub hsub2 hi1 hn1 hi2 hn2 ho hk1 hl
   generalize l.length = kl at *
   go_enter Tryz.func72, Tryz.ntmps72
   go_wp2_with (go_at_call 49; refine HS.out.mono ?_; rintro e w' ⟨k, n, A, l, d, rfl, ⟨f0, f1, f2, ff⟩, hR⟩; have HR := Lib.hid hR; clear hR)
   exact bodyPost_ret (v := .agg #[.int .i64 k, .int .i64 n, .slice A l d]) (by simp [results, Tryz.results72, go_sem, f0, f1, f2]) rfl HR.out
end
end Go.Proofs.YtnobggabjpcbfaaGreat
namespace Go.Proofs.YtnobggabjpcbfaaGreat
open Go.RowKit
section
variable {X Y : Nat → Prop} {B mb cb : Nat} {fv : Value} {inp : List Int} {fuel : FL} {s s1 : FSt} {cut stk rai : Bool} {x0 x1 x2 : Value} {W W' W1 W2 : World} {o : FOut}
theorem rprim_ref (h : RGo X B mb cb fv inp fuel s W) (hX : ∀ k, X k → k < W.heap.size) (hlim : s.cells.length + 1 + s.left ≤ fuel.lim) {A : Option Addr} {l : List PV} {c : Nat} (hv : VRow X s.made.length s.cells.length W A l) (hl : 0 < l.length) :
 Calls Tryz.prog 72 #[.pointer (some ⟨mb, 0, none⟩), .int .i64 10, .slice A l.length c] W (ROut X B mb cb fv inp fuel s (.val (.ref s.cells.length), { s with cells := s.cells ++ [l[0]] }) W) := by
 generalize hV0 : (W.alloc (.cells #[.int .i64 0, .int .i64 0, .slice none 0 0] 46)) = V0
 obtain ⟨hb1, hbx, hg0, hsz⟩ := box_world h V0 hV0
 have hv0 := (hv.bx (b := W.heap.size) (by omega)).step (KpX.below hb1) (Nat.le_refl _) (Nat.le_refl _)
 obtain ⟨bb, oo, a0, a1, a2, rfl, c0, c1, c2, hsub⟩ := hv0.at_ hl
 simp only [Nat.zero_mul, Nat.add_zero] at c0 c1 c2
 have hX0 : ∀ k, Bx X W.heap.size k → k < V0.heap.size := fun k hk => by
  rcases hk with hk | hk
  · have := hX k hk; omega
  · omega
 have hll : (0 : Int) < (l.length : Int) := by omega
 have hPF : PV3 (Bx X W.heap.size) s.made.length s.cells.length V0 l[0] [a0, a1, a2] := ⟨_, _, _, rfl, hsub⟩
 obtain ⟨k1, n1, A1, l1, d1, rfl, rfl, rfl⟩ := hsub.shape
 obtain ⟨Af, cf, xs, hcb, hxs, hrow, -⟩ := hg0.celL
 have hlt := own_lt h
 have HP := Lib.hid (fun (V : World) (v : Value) (hb : Below V0.heap.size V0 V) (hown : V.ownsRow V0.heap.size 46 3 v (s.cells.length + 1) (xs ++ [.int .i64 k1, .int .i64 n1, .slice A1 l1 d1])) =>
  ROut.box' (X := X) (fuel := fuel) (s1 := s) (o := (.val (.ref s.cells.length), { s with cells := s.cells ++ [l[0]] })) (W := W) (W1 := V0) (W2 := (V.setCell ⟨mb, 5, none⟩ v)) (b := W.heap.size) h.hX h.hBW (own_lt h) (Nat.le_refl _) hbx (Stp.below hb1 h.hBW) ⟨Nat.le_refl _, Nat.le_refl _⟩
   (show ROut (Bx X W.heap.size) B mb cb fv inp fuel s (.val (.ref s.cells.length), { s with cells := s.cells ++ [l[0]] }) V0 (.returned (.agg #[.int .i64 4, .int .i64 (s.cells.length : Int), .slice none 0 0])) (V.setCell ⟨mb, 5, none⟩ v) from by
    obtain ⟨r1, r2⟩ := hg0.cel_ hX0 hlim hb hxs hPF hown
    exact ⟨r2, ⟨Nat.le_refl _, by simp⟩, _, _, _, _, _, rfl, r1, .ref _ (by simp)⟩))
 have hone := hxs.one (fun a c h => h.one)
 have hlen := hxs.len
 have hfb := h.fuelB
 have hlb := h.limB
 have hnb : s.cells.length ≤ 1000000000 := by omega
 obtain ⟨inf0, hinf, hz0, hz1, hz2⟩ := info_parts Tryz.infoV
 obtain ⟨o, ho⟩ : ∃ o : FOut, (.val (.ref s.cells.length), { s with cells := s.cells ++ [l[0]] }) = o := ⟨_, rfl⟩
 rw [ho] at HP ⊢
 clear ho
 have hmf := hg0.cells.2.2.2.2.2.2.2.2.2.1
 have hmlt : mb < V0.heap.size := (own_lt hg0).1
 have hblt : bb < V0.heap.size := lt_of_cell c1
 clear h hX hlim hxs hPF hlb hfb hg0 hX0 hb1 hbx hv hv0 hsub
 generalize l.length = kl at *
 have hkl0 : 0 < kl := by omega
 generalize s.cells.length = n at *
 have HS := Lib.hid (fun (V : World) (hb : Below V0.heap.size V0 V) => (show V.cell? ⟨mb, 5, none⟩ = some (.slice Af n cf) ∧ V.cell? ⟨bb, oo, none⟩ = some (.int .i64 k1) ∧ V.cell? ⟨bb, oo + 1, none⟩ = some (.int .i64 n1) ∧ V.cell? ⟨bb, oo + 2, none⟩ = some (.slice A1 l1 d1) from ⟨cell_behind hb hcb, cell_behind hb c0, cell_behind hb c1, cell_behind hb c2⟩))
 have HR := Lib.hid (fun (V : World) (hb : Below V0.heap.size V0 V) => hrow.below hb)
 have HB0 := Lib.hid (show Below V0.heap.size V0 V0 from (Below.refl _ _))
 have HF := Lib.hid (fun (V : World) (hb : Below V0.heap.size V0 V) => (show V.frozen? ⟨mb, 5, none⟩ = false from (hb.frozen (p := ⟨mb, 5, none⟩) hmlt).trans (hmf 5)))
 clear hrow hmf
 go_enter Tryz.func72, Tryz.ntmps72
 go_wp2_with fail
 clear hV0
 have HBa := Lib.hid (below_al1 V0 (.cells #[] 46)).drew
 have HBb := Lib.hid (below_al2 V0 (.cells #[] 46) (.cells #[.int .i64 k1, .int .i64 n1, .slice A1 l1 d1] 46)).drew
 have HBc := Lib.hid (below_al2 V0 (.cells #[.int .i64 k1, .int .i64 n1, .slice A1 l1 d1] 46) (.cells #[] 46)).drew
 have HBd := Lib.hid (below_al1 V0 (.cells #[.int .i64 k1, .int .i64 n1, .slice A1 l1 d1] 46)).drew
 have HOa := Lib.hid (World.ownsRow.drew (own_empty V0 (Nat.le_refl _) 46 3))
 have HOb := Lib.hid (World.ownsRow.drew (World.ownsRow.alloc (own_empty V0 (Nat.le_refl _) 46 3) (.cells #[.int .i64 k1, .int .i64 n1, .slice A1 l1 d1] 46)))
 have HOc := Lib.hid (show (((V0.alloc (.cells #[.int .i64 k1, .int .i64 n1, .slice A1 l1 d1] 46)).alloc (.cells #[] 46)).drew).ownsRow V0.heap.size 46 3 (.slice (some ⟨V0.heap.size + 1, 0, none⟩) 0 0) 0 [] from by
  have e := World.ownsRow.drew (own_empty (V0.alloc (.cells #[.int .i64 k1, .int .i64 n1, .slice A1 l1 d1] 46)) (base := V0.heap.size) (by simp) 46 3)
  rwa [World.size_alloc] at e)
 have HGb := Lib.hid (fun (w1 : World) (hg : (((V0.alloc (.cells #[] 46)).alloc (.cells #[.int .i64 k1, .int .i64 n1, .slice A1 l1 d1] 46)).drew).grownBy w1 (Value.ownBlock (.slice (some ⟨V0.heap.size, 0, none⟩) 0 0))) => rowOf_block ((hg.block (V0.heap.size + 1) (by show V0.heap.size + 1 < ((V0.alloc (.cells #[] 46)).alloc (.cells #[.int .i64 k1, .int .i64 n1, .slice A1 l1 d1] 46)).heap.size; simp) (by simp [Value.ownBlock])).trans (new2 V0 _ _)))
 have HGc := Lib.hid (fun (w1 : World) (hg : (((V0.alloc (.cells #[.int .i64 k1, .int .i64 n1, .slice A1 l1 d1] 46)).alloc (.cells #[] 46)).drew).grownBy w1 (Value.ownBlock (.slice (some ⟨V0.heap.size + 1, 0, none⟩) 0 0))) => rowOf_block ((hg.block V0.heap.size  (by show V0.heap.size < ((V0.alloc (.cells #[.int .i64 k1, .int .i64 n1, .slice A1 l1 d1] 46)).alloc (.cells #[] 46)).heap.size; simp; omega) (by simp [Value.ownBlock])).trans (((below_al1 _ (.cells #[] 46)).block V0.heap.size (by simp)).trans (new1 V0 (.cells #[.int .i64 k1, .int .i64 n1, .slice A1 l1 d1] 46)))))
 have hone2 : ∀ u ∈ ([.int .i64 k1, .int .i64 n1, .slice A1 l1 d1] : List Value), u.oneCell' = true := by simp [Value.oneCell']
 obtain ⟨h0, h1, h2, h3⟩ := HS.out V0 HB0.out
 have k0 := HF.out V0 HB0.out
 have hw1 : IntKind.i64.wrap (n : Int) = (n : Int) := by rw [IntKind.wrap_i64]; omega
 have hw2 : IntKind.i64.wrap ((n : Int) + 1 - 1) = (n : Int) := by rw [IntKind.wrap_i64]; omega
 go_region_law ((first
  | (rw [if_pos (by rfl)]; refine wp_append_row _ _ _ 43 rfl V0.heap.size 46 inf0 _ 3 40 Tryz.underlying43 hinf hz0 hz1 hz2 rfl (by decide) _ 0 [] rfl HOa.out Af n cf xs rfl hlen (HR.out _ HBa.out) hone (by simp only [maxLen]; omega) (by omega) (Nat.le_trans (Nat.le_refl _) HBa.out.size) ?_; intro v1 w1 hown1 hgr1 hat1; have HB1 := Lib.hid (grown_below HBa.out hgr1 (own_ge HOa.out)); have hown1' := own_size (show n = 0 + n by omega) hown1; clear hown1 hat1; obtain ⟨Ay, ny, cy, rfl⟩ := own_shape hown1'; obtain ⟨i0, i1, i2, i3⟩ := HS.out w1 HB1.out; have hc1 : mb < w1.heap.size := Nat.lt_of_lt_of_le hmlt HB1.out.size; have hw1 : bb < w1.heap.size := Nat.lt_of_lt_of_le hblt HB1.out.size)
  | (rw [if_pos (by rfl)]; refine wp_append_row _ _ _ 43 rfl V0.heap.size 46 inf0 _ 3 40 Tryz.underlying43 hinf hz0 hz1 hz2 rfl (by decide) _ 0 [] rfl HOb.out Af n cf xs rfl hlen (HR.out _ HBb.out) hone (by simp only [maxLen]; omega) (by omega) (Nat.le_trans (Nat.le_refl _) HBb.out.size) ?_; intro v1 w1 hown1 hgr1 hat1; have HB1 := Lib.hid (grown_below HBb.out hgr1 (own_ge HOb.out)); have HF1 := Lib.hid (HGb.out _ hgr1); have hown1' := own_size (show n = 0 + n by omega) hown1; clear hown1 hat1; obtain ⟨Ay, ny, cy, rfl⟩ := own_shape hown1'; obtain ⟨i0, i1, i2, i3⟩ := HS.out w1 HB1.out; have hc1 : mb < w1.heap.size := Nat.lt_of_lt_of_le hmlt HB1.out.size; have hw1 : bb < w1.heap.size := Nat.lt_of_lt_of_le hblt HB1.out.size)
  | (rw [if_pos (by rfl)]; refine wp_append_row _ _ _ 43 rfl V0.heap.size 46 inf0 _ 3 40 Tryz.underlying43 hinf hz0 hz1 hz2 rfl (by decide) _ 0 [] rfl HOc.out Af n cf xs rfl hlen (HR.out _ HBc.out) hone (by simp only [maxLen]; omega) (by omega) (Nat.le_trans (Nat.le_refl _) HBc.out.size) ?_; intro v1 w1 hown1 hgr1 hat1; have HB1 := Lib.hid (grown_below HBc.out hgr1 (own_ge HOc.out)); have HF1 := Lib.hid (HGc.out _ hgr1); have hown1' := own_size (show n = 0 + n by omega) hown1; clear hown1 hat1; obtain ⟨Ay, ny, cy, rfl⟩ := own_shape hown1'; obtain ⟨i0, i1, i2, i3⟩ := HS.out w1 HB1.out; have hc1 : mb < w1.heap.size := Nat.lt_of_lt_of_le hmlt HB1.out.size; have hw1 : bb < w1.heap.size := Nat.lt_of_lt_of_le hblt HB1.out.size)
  | (rw [if_pos (by rfl)]; refine wp_append_row _ _ _ 43 rfl V0.heap.size 46 inf0 _ 3 40 Tryz.underlying43 hinf hz0 hz1 hz2 rfl (by decide) _ n xs rfl (World.ownsRow.alloc hown1' _) _ 1 1 [.int .i64 k1, .int .i64 n1, .slice A1 l1 d1] rfl rfl (rowOf_block (new1 w1 (.cells #[.int .i64 k1, .int .i64 n1, .slice A1 l1 d1] 46))) hone2 (by simp only [maxLen]; omega) (by omega) (HB1.out.alloc HB1.out.size (.cells #[.int .i64 k1, .int .i64 n1, .slice A1 l1 d1] 46)).size ?_; intro v2 w2 hown2 hgr2 hat2; have HB2 := Lib.hid (grown_below (HB1.out.alloc HB1.out.size (.cells #[.int .i64 k1, .int .i64 n1, .slice A1 l1 d1] 46)) hgr2 (own_ge hown1')); clear hat2; obtain ⟨g2, c2, rfl, -⟩ := own_cell hown2 (by omega); have kf := HF.out w2 HB2.out; have kc := (HS.out w2 HB2.out).1; have HOW := Lib.hid hown2; clear hown2 hgr2)
  | (rw [if_pos (by rfl)]; refine wp_append_row _ _ _ 43 rfl V0.heap.size 46 inf0 _ 3 40 Tryz.underlying43 hinf hz0 hz1 hz2 rfl (by decide) _ n xs rfl (World.ownsRow.drew hown1') _ 1 1 [.int .i64 k1, .int .i64 n1, .slice A1 l1 d1] rfl rfl HF1.out hone2 (by simp only [maxLen]; omega) (by omega) HB1.out.drew.size ?_; intro v2 w2 hown2 hgr2 hat2; have HB2 := Lib.hid (grown_below HB1.out.drew hgr2 (own_ge hown1')); clear hat2; obtain ⟨g2, c2, rfl, -⟩ := own_cell hown2 (by omega); have kf := HF.out w2 HB2.out; have kc := (HS.out w2 HB2.out).1; have HOW := Lib.hid hown2; clear hown2 hgr2)
  | (rw [if_pos (by rfl)]; refine wp_append_row _ _ _ 43 rfl V0.heap.size 46 inf0 _ 3 40 Tryz.underlying43 hinf hz0 hz1 hz2 rfl (by decide) _ n xs rfl hown1' _ 1 1 [.int .i64 k1, .int .i64 n1, .slice A1 l1 d1] rfl rfl HF1.out hone2 (by simp only [maxLen]; omega) (by omega) HB1.out.size ?_; intro v2 w2 hown2 hgr2 hat2; have HB2 := Lib.hid (grown_below HB1.out hgr2 (own_ge hown1')); clear hat2; obtain ⟨g2, c2, rfl, -⟩ := own_cell hown2 (by omega); have kf := HF.out w2 HB2.out; have kc := (HS.out w2 HB2.out).1; have HOW := Lib.hid hown2; clear hown2 hgr2)))
 all_goals
  obtain ⟨⟨f0, f1, f2, ff⟩, hR⟩ := HP.out _ _ HB2.out HOW.out
  have HRR := Lib.hid hR
  have hcc : (w2.setCell ⟨mb, 5, none⟩ (.slice (some ⟨g2, 0, none⟩) (n + 1) c2)).cell? ⟨mb, 5, none⟩ = some (.slice (some ⟨g2, 0, none⟩) (n + 1) c2) := cell_same kc _
  clear hR kf kc HB1 HB2 HOW hown1'
  generalize (w2.setCell ⟨mb, 5, none⟩ (.slice (some ⟨g2, 0, none⟩) (n + 1) c2)) = V' at *
  go_wp2_with fail
  exact bodyPost_ret (v := (.agg #[.int .i64 4, .int .i64 (n : Int), .slice none 0 0])) (by simp [results, Tryz.results72, go_sem, f0, f1, f2]) rfl HRR.out
end
end Go.Proofs.YtnobggabjpcbfaaGreat
namespace Go.Proofs.YtnobggabjpcbfaaGreat
open Go.RowKit
section
variable {X Y : Nat → Prop} {B mb cb : Nat} {fv : Value} {inp : List Int} {fuel : FL} {s s1 : FSt} {cut stk rai : Bool} {x0 x1 x2 : Value} {W W' W1 W2 : World} {o : FOut}
def printO (a : PV) (s : FSt) : FOut := match a with | .int n => (.val (.int 0), { s with out := s.out ++ [n] }) | _ => (.stuck, s)
theorem rprim_print (h : RGo X B mb cb fv inp fuel s W) (hX : ∀ k, X k → k < W.heap.size) (hlim : s.out.length + 1 + s.left ≤ fuel.lim) {A : Option Addr} {l : List PV} {c : Nat} (hv : VRow X s.made.length s.cells.length W A l) (hl : 0 < l.length) :
 Calls Tryz.prog 72 #[.pointer (some ⟨mb, 0, none⟩), .int .i64 13, .slice A l.length c] W (ROut X B mb cb fv inp fuel s (printO l[0] s) W) := by
 generalize hV0 : (W.alloc (.cells #[.int .i64 0, .int .i64 0, .slice none 0 0] 46)) = V0
 obtain ⟨hb1, hbx, hg0, hsz⟩ := box_world h V0 hV0
 have hv0 := (hv.bx (b := W.heap.size) (by omega)).step (KpX.below hb1) (Nat.le_refl _) (Nat.le_refl _)
 obtain ⟨bb, oo, a0, a1, a2, rfl, c0, c1, c2, hsub⟩ := hv0.at_ hl
 simp only [Nat.zero_mul, Nat.add_zero] at c0 c1 c2
 have hX0 : ∀ k, Bx X W.heap.size k → k < V0.heap.size := fun k hk => by
  rcases hk with hk | hk
  · have := hX k hk; omega
  · omega
 have hll : (0 : Int) < (l.length : Int) := by omega
 have HS := Lib.hid ((rstop_any hg0).mono fun e w' hp => ROut.box (W := W) (b := W.heap.size) h.hX h.hBW (own_lt h) (Nat.le_refl _) hbx (Stp.below hb1 h.hBW) ⟨Nat.le_refl _, Nat.le_refl _⟩ (ROut.stop hp))
 obtain ⟨k1, n1, A1, l1, d1, rfl, rfl, rfl, -, -, hi1, hn1, -⟩ := hsub.one_
 obtain ⟨o, ho⟩ : ∃ o, printO l[0] s = o := ⟨_, rfl⟩
 rw [ho]
 by_cases hk : k1 = 1
 rotate_left
 · obtain rfl : o = (.stuck, s) := by
    rw [← ho]
    have := hn1 hk
    unfold printO
    split
    · rename_i i hi; exact absurd hi (this i)
    · rfl
   have hk4 : (k1 == 1) = false := by simpa using hk
   have hk5 : (k1 != 1) = true := by simpa using hk
   clear h hb1 hbx hg0 hsz hv hv0 hsub hi1 hn1 ho hk hlim hX hX0
   generalize l.length = kl at *
   go_enter Tryz.func72, Tryz.ntmps72
   go_wp2_with (go_at_call 49; refine HS.out.mono ?_; rintro e w' ⟨k, n, A, l, d, rfl, ⟨f0, f1, f2, ff⟩, hR⟩; have HR := Lib.hid hR; clear hR)
   exact bodyPost_ret (v := .agg #[.int .i64 k, .int .i64 n, .slice A l d]) (by simp [results, Tryz.results72, go_sem, f0, f1, f2]) rfl HR.out
 subst hk
 have hP1 : l[0] = .int n1 := hi1 rfl
 rw [hP1] at ho
 simp only [printO] at ho
 have hPF : PI1 n1 [.int .i64 n1] := rfl
 clear hi1 hn1 HS hP1
 obtain ⟨Af, cf, xs, hcb, hxs, hrow⟩ := hg0.outL
 have hlt := own_lt h
 have HP := Lib.hid (fun (V : World) (v : Value) (hb : Below V0.heap.size V0 V) (hown : V.ownsRow V0.heap.size 3 1 v (s.out.length + 1) (xs ++ [.int .i64 n1])) (V' : World) (hb' : Below (V.setCell ⟨mb, 4, none⟩ v).heap.size (V.setCell ⟨mb, 4, none⟩ v) V') =>
  ROut.box' (X := X) (fuel := fuel) (s1 := s) (o := (.val (.int 0), { s with out := s.out ++ [n1] })) (W := W) (W1 := V0) (W2 := V') (b := W.heap.size) h.hX h.hBW (own_lt h) (Nat.le_refl _) hbx (Stp.below hb1 h.hBW) ⟨Nat.le_refl _, Nat.le_refl _⟩
   (show ROut (Bx X W.heap.size) B mb cb fv inp fuel s (.val (.int 0), { s with out := s.out ++ [n1] }) V0 (.returned (.agg #[.int .i64 1, .int .i64 0, .slice none 0 0])) V' from by
    obtain ⟨r1, r2⟩ := hg0.out_ hX0 hlim hb hxs hPF hown
    exact ⟨r2.trans (Stp.below hb' r1.hBW), ⟨Nat.le_refl _, Nat.le_refl _⟩, _, _, _, _, _, rfl, r1.below hb', .int _⟩))
 have hone := hxs.one (fun a c h => h.one)
 have hlen := hxs.len
 have hfb := h.fuelB
 have hlb := h.limB
 have hnb : s.out.length ≤ 1000000000 := by omega
 obtain ⟨inf0, hinf, hz0, hz1, hz2⟩ := info_parts infoIntV
 rw [ho] at HP
 clear ho
 have hmf := hg0.cells.2.2.2.2.2.2.2.2.2.1
 have hmlt : mb < V0.heap.size := (own_lt hg0).1
 have hblt : bb < V0.heap.size := lt_of_cell c1
 clear h hX hlim hxs hPF hlb hfb hg0 hX0 hb1 hbx hv hv0 hsub
 generalize l.length = kl at *
 have hkl0 : 0 < kl := by omega
 generalize s.out.length = n at *
 have HS := Lib.hid (fun (V : World) (hb : Below V0.heap.size V0 V) => (show V.cell? ⟨mb, 4, none⟩ = some (.slice Af n cf) ∧ V.cell? ⟨bb, oo + 1, none⟩ = some (.int .i64 n1) from ⟨cell_behind hb hcb, cell_behind hb c1⟩))
 have HR := Lib.hid (fun (V : World) (hb : Below V0.heap.size V0 V) => hrow.below hb)
 have HB0 := Lib.hid (show Below V0.heap.size V0 V0 from (Below.refl _ _))
 have HF := Lib.hid (fun (V : World) (hb : Below V0.heap.size V0 V) => (show V.frozen? ⟨mb, 4, none⟩ = false from (hb.frozen (p := ⟨mb, 4, none⟩) hmlt).trans (hmf 4)))
 clear hrow hmf
 go_enter Tryz.func72, Tryz.ntmps72
 go_wp2_with fail
 clear hV0
 have HBa := Lib.hid (below_al1 V0 (.cells #[] 3)).drew
 have HBb := Lib.hid (below_al2 V0 (.cells #[] 3) (.cells #[.int .i64 n1] 3)).drew
 have HBc := Lib.hid (below_al2 V0 (.cells #[.int .i64 n1] 3) (.cells #[] 3)).drew
 have HBd := Lib.hid (below_al1 V0 (.cells #[.int .i64 n1] 3)).drew
 have HOa := Lib.hid (World.ownsRow.drew (own_empty V0 (Nat.le_refl _) 3 1))
 have HOb := Lib.hid (World.ownsRow.drew (World.ownsRow.alloc (own_empty V0 (Nat.le_refl _) 3 1) (.cells #[.int .i64 n1] 3)))
 have HOc := Lib.hid (show (((V0.alloc (.cells #[.int .i64 n1] 3)).alloc (.cells #[] 3)).drew).ownsRow V0.heap.size 3 1 (.slice (some ⟨V0.heap.size + 1, 0, none⟩) 0 0) 0 [] from by
  have e := World.ownsRow.drew (own_empty (V0.alloc (.cells #[.int .i64 n1] 3)) (base := V0.heap.size) (by simp) 3 1)
  rwa [World.size_alloc] at e)
 have HGb := Lib.hid (fun (w1 : World) (hg : (((V0.alloc (.cells #[] 3)).alloc (.cells #[.int .i64 n1] 3)).drew).grownBy w1 (Value.ownBlock (.slice (some ⟨V0.heap.size, 0, none⟩) 0 0))) => rowOf_block ((hg.block (V0.heap.size + 1) (by show V0.heap.size + 1 < ((V0.alloc (.cells #[] 3)).alloc (.cells #[.int .i64 n1] 3)).heap.size; simp) (by simp [Value.ownBlock])).trans (new2 V0 _ _)))
 have HGc := Lib.hid (fun (w1 : World) (hg : (((V0.alloc (.cells #[.int .i64 n1] 3)).alloc (.cells #[] 3)).drew).grownBy w1 (Value.ownBlock (.slice (some ⟨V0.heap.size + 1, 0, none⟩) 0 0))) => rowOf_block ((hg.block V0.heap.size  (by show V0.heap.size < ((V0.alloc (.cells #[.int .i64 n1] 3)).alloc (.cells #[] 3)).heap.size; simp; omega) (by simp [Value.ownBlock])).trans (((below_al1 _ (.cells #[] 3)).block V0.heap.size (by simp)).trans (new1 V0 (.cells #[.int .i64 n1] 3)))))
 have hone2 : ∀ u ∈ ([.int .i64 n1] : List Value), u.oneCell' = true := by simp [Value.oneCell']
 obtain ⟨h0, h1⟩ := HS.out V0 HB0.out
 have k0 := HF.out V0 HB0.out
 have hw1 : IntKind.i64.wrap (n : Int) = (n : Int) := by rw [IntKind.wrap_i64]; omega
 have hw2 : IntKind.i64.wrap ((n : Int) + 1 - 1) = (n : Int) := by rw [IntKind.wrap_i64]; omega
 go_region_law ((first
  | (rw [if_pos (by rfl)]; refine wp_append_row _ _ _ 30 rfl V0.heap.size 3 inf0 _ 1 8 Tryz.underlying30 hinf hz0 hz1 hz2 rfl (by decide) _ 0 [] rfl HOa.out Af n cf xs rfl hlen (HR.out _ HBa.out) hone (by simp only [maxLen]; omega) (by omega) (Nat.le_trans (Nat.le_refl _) HBa.out.size) ?_; intro v1 w1 hown1 hgr1 hat1; have HB1 := Lib.hid (grown_below HBa.out hgr1 (own_ge HOa.out)); have hown1' := own_size (show n = 0 + n by omega) hown1; clear hown1 hat1; obtain ⟨Ay, ny, cy, rfl⟩ := own_shape hown1'; obtain ⟨i0, i1⟩ := HS.out w1 HB1.out; have hc1 : mb < w1.heap.size := Nat.lt_of_lt_of_le hmlt HB1.out.size; have hw1 : bb < w1.heap.size := Nat.lt_of_lt_of_le hblt HB1.out.size)
  | (rw [if_pos (by rfl)]; refine wp_append_row _ _ _ 30 rfl V0.heap.size 3 inf0 _ 1 8 Tryz.underlying30 hinf hz0 hz1 hz2 rfl (by decide) _ 0 [] rfl HOb.out Af n cf xs rfl hlen (HR.out _ HBb.out) hone (by simp only [maxLen]; omega) (by omega) (Nat.le_trans (Nat.le_refl _) HBb.out.size) ?_; intro v1 w1 hown1 hgr1 hat1; have HB1 := Lib.hid (grown_below HBb.out hgr1 (own_ge HOb.out)); have HF1 := Lib.hid (HGb.out _ hgr1); have hown1' := own_size (show n = 0 + n by omega) hown1; clear hown1 hat1; obtain ⟨Ay, ny, cy, rfl⟩ := own_shape hown1'; obtain ⟨i0, i1⟩ := HS.out w1 HB1.out; have hc1 : mb < w1.heap.size := Nat.lt_of_lt_of_le hmlt HB1.out.size; have hw1 : bb < w1.heap.size := Nat.lt_of_lt_of_le hblt HB1.out.size)
  | (rw [if_pos (by rfl)]; refine wp_append_row _ _ _ 30 rfl V0.heap.size 3 inf0 _ 1 8 Tryz.underlying30 hinf hz0 hz1 hz2 rfl (by decide) _ 0 [] rfl HOc.out Af n cf xs rfl hlen (HR.out _ HBc.out) hone (by simp only [maxLen]; omega) (by omega) (Nat.le_trans (Nat.le_refl _) HBc.out.size) ?_; intro v1 w1 hown1 hgr1 hat1; have HB1 := Lib.hid (grown_below HBc.out hgr1 (own_ge HOc.out)); have HF1 := Lib.hid (HGc.out _ hgr1); have hown1' := own_size (show n = 0 + n by omega) hown1; clear hown1 hat1; obtain ⟨Ay, ny, cy, rfl⟩ := own_shape hown1'; obtain ⟨i0, i1⟩ := HS.out w1 HB1.out; have hc1 : mb < w1.heap.size := Nat.lt_of_lt_of_le hmlt HB1.out.size; have hw1 : bb < w1.heap.size := Nat.lt_of_lt_of_le hblt HB1.out.size)
  | (rw [if_pos (by rfl)]; refine wp_append_row _ _ _ 30 rfl V0.heap.size 3 inf0 _ 1 8 Tryz.underlying30 hinf hz0 hz1 hz2 rfl (by decide) _ n xs rfl (World.ownsRow.alloc hown1' _) _ 1 1 [.int .i64 n1] rfl rfl (rowOf_block (new1 w1 (.cells #[.int .i64 n1] 3))) hone2 (by simp only [maxLen]; omega) (by omega) (HB1.out.alloc HB1.out.size (.cells #[.int .i64 n1] 3)).size ?_; intro v2 w2 hown2 hgr2 hat2; have HB2 := Lib.hid (grown_below (HB1.out.alloc HB1.out.size (.cells #[.int .i64 n1] 3)) hgr2 (own_ge hown1')); clear hat2; obtain ⟨g2, c2, rfl, -⟩ := own_cell hown2 (by omega); have kf := HF.out w2 HB2.out; have kc := (HS.out w2 HB2.out).1; have HOW := Lib.hid hown2; clear hown2 hgr2)
  | (rw [if_pos (by rfl)]; refine wp_append_row _ _ _ 30 rfl V0.heap.size 3 inf0 _ 1 8 Tryz.underlying30 hinf hz0 hz1 hz2 rfl (by decide) _ n xs rfl (World.ownsRow.drew hown1') _ 1 1 [.int .i64 n1] rfl rfl HF1.out hone2 (by simp only [maxLen]; omega) (by omega) HB1.out.drew.size ?_; intro v2 w2 hown2 hgr2 hat2; have HB2 := Lib.hid (grown_below HB1.out.drew hgr2 (own_ge hown1')); clear hat2; obtain ⟨g2, c2, rfl, -⟩ := own_cell hown2 (by omega); have kf := HF.out w2 HB2.out; have kc := (HS.out w2 HB2.out).1; have HOW := Lib.hid hown2; clear hown2 hgr2)
  | (rw [if_pos (by rfl)]; refine wp_append_row _ _ _ 30 rfl V0.heap.size 3 inf0 _ 1 8 Tryz.underlying30 hinf hz0 hz1 hz2 rfl (by decide) _ n xs rfl hown1' _ 1 1 [.int .i64 n1] rfl rfl HF1.out hone2 (by simp only [maxLen]; omega) (by omega) HB1.out.size ?_; intro v2 w2 hown2 hgr2 hat2; have HB2 := Lib.hid (grown_below HB1.out hgr2 (own_ge hown1')); clear hat2; obtain ⟨g2, c2, rfl, -⟩ := own_cell hown2 (by omega); have kf := HF.out w2 HB2.out; have kc := (HS.out w2 HB2.out).1; have HOW := Lib.hid hown2; clear hown2 hgr2)))
 all_goals
  have HPP := Lib.hid (HP.out _ _ HB2.out HOW.out)
  clear kf kc HB1 HB2 HOW hown1'
  generalize (w2.setCell ⟨mb, 4, none⟩ (.slice (some ⟨g2, 0, none⟩) (n + 1) c2)) = V' at *
  go_wp2_with (go_at_call 73; refine (vint_any _ _).mono ?_; rintro e w5 ⟨rfl, hbi⟩; obtain ⟨⟨f0, f1, f2, ff⟩, hR⟩ := HPP.out _ hbi; have HRR := Lib.hid hR; clear hR)
  exact bodyPost_ret (v := (.agg #[.int .i64 1, .int .i64 0, .slice none 0 0])) (by simp [results, Tryz.results72, go_sem, f0, f1, f2]) rfl HRR.out
end
end Go.Proofs.YtnobggabjpcbfaaGreat
