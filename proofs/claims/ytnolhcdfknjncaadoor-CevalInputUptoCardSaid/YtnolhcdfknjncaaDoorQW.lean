/-
  2 texts of this seat in one: V14 V15.
-/
import Derived.Test.YtnolhcdfknjncaaDoorY13
import Derived.Deep.RegionLaw
/-
  The document's run: primitives that turn no row: get, read, raise.
-/
set_option linter.unusedVariables false
set_option linter.unusedSimpArgs false
namespace Go.Proofs.YtnolhcdfknjncaaDoor
open Go.RowKit

section
variable {X Y : Nat → Prop} {B mb cb : Nat} {inp : List Int} {fuel : FL} {s s1 : St} {cut stk rai : Bool} {x0 x1 x2 : Value} {W W' W1 W2 : World} {o : Out}
theorem VIn.one_ {nf nc : Nat} {v : PV} {a b c : Value} (h : VIn X nf nc W v a b c) : ∃ k n A l d, a = .int .i64 k ∧ b = .int .i64 n ∧ c = .slice A l d ∧ (k = 4 → ∃ i : Nat, v = .ref i ∧ i < nc ∧ n = (i : Int)) ∧ (k ≠ 4 → ∀ i, v ≠ .ref i) ∧ (k = 1 → v = .int n) ∧ (k ≠ 1 → ∀ i, v ≠ .int i) ∧ (k = 3 → ∃ i : Nat, v = .fn i ∧ i < nf ∧ n = (i : Int)) ∧ (k ≠ 3 → ∀ i, v ≠ .fn i) := by
  cases h with
  | int n => exact ⟨1, n, none, 0, 0, rfl, rfl, rfl, by omega, by simp, by simp, by simp, by omega, by simp⟩
  | fn i h => exact ⟨3, i, none, 0, 0, rfl, rfl, rfl, by omega, by simp, by omega, by simp, fun _ => ⟨i, rfl, h, rfl⟩, by simp⟩
  | ref i h => exact ⟨4, i, none, 0, 0, rfl, rfl, rfl, fun _ => ⟨i, rfl, h, rfl⟩, by simp, by omega, by simp, by omega, by simp⟩
  | blk t ks A c b o G0 G1 G2 hl hb hA c0 c1 c2 hsub => exact ⟨2, t, A, ks.length, c, rfl, rfl, rfl, by omega, by simp, by omega, by simp, by omega, by simp⟩
theorem box_world (h : RGo X B mb cb inp fuel s W) (V0 : World) (hV0 : (W.alloc (.cells #[.int .i64 0, .int .i64 0, .slice none 0 0] 65)) = V0) :
    Below W.heap.size W V0 ∧ V0.heap[W.heap.size]? = some (.cells #[.int .i64 0, .int .i64 0, .slice none 0 0] 65 (0, 0)) ∧ RGo (Bx X W.heap.size) B mb cb inp fuel s V0 ∧ W.heap.size < V0.heap.size := by
  have hb1 : Below W.heap.size W (W.alloc (.cells #[.int .i64 0, .int .i64 0, .slice none 0 0] 65)) := (Below.refl _ _).alloc (Nat.le_refl _) _
  rw [hV0] at hb1
  have hbx : V0.heap[W.heap.size]? = some (.cells #[.int .i64 0, .int .i64 0, .slice none 0 0] 65 (0, 0)) := by rw [← hV0]; exact new1 _ _
  exact ⟨hb1, hbx, (RIn.bx h (by omega)).below hb1, (Array.getElem?_eq_some_iff.1 hbx).1⟩

set_option maxRecDepth 100000 in
set_option maxHeartbeats 1000000 in
theorem rprim_read (h : RGo X B mb cb inp fuel s W) (hlim : fuel.lim < fuel.f) (L : Value) :
    Calls Tryd.prog 75 #[.pointer (some ⟨mb, 0, none⟩), .int .i64 14, L] W (ROut X B mb cb inp fuel.up s (readP inp s) W) := by
  generalize hV0 : (W.alloc (.cells #[.int .i64 0, .int .i64 0, .slice none 0 0] 65)) = V0
  obtain ⟨hb1, hbx, hg0, hsz⟩ := box_world h V0 hV0
  have HS := Lib.hid ((rread_any hg0 hlim).mono fun e w' hp => ROut.box (W := W) (b := W.heap.size) h.hX h.hBW (own_lt h) (Nat.le_refl _) hbx (Stp.below hb1 h.hBW) ⟨Nat.le_refl _, Nat.le_refl _⟩ hp)
  clear h hb1 hbx hg0 hsz hlim
  generalize readP inp s = o at *
  go_enter Tryd.func75, Tryd.ntmps75
  go_wp2_with (go_at_call 88; refine HS.out.mono ?_; rintro e w' ⟨k, n, A, l, d, rfl, ⟨f0, f1, f2, ff⟩, hR⟩; have HR := Lib.hid hR; clear hR)
  exact bodyPost_ret (v := .agg #[.int .i64 k, .int .i64 n, .slice A l d]) (by simp [results, Tryd.results75, go_sem, f0, f1, f2]) rfl HR.out
set_option maxRecDepth 100000 in
set_option maxHeartbeats 1000000 in
theorem rprim_raise (h : RGo X B mb cb inp fuel s W) {A : Option Addr} {l : List PV} {c : Nat} (hv : VRow X s.fns.length s.cells.length W A l) (hl : 0 < l.length) :
    Calls Tryd.prog 75 #[.pointer (some ⟨mb, 0, none⟩), .int .i64 15, .slice A l.length c] W (ROut X B mb cb inp fuel s (raiseO l[0] s) W) := by
  generalize hV0 : (W.alloc (.cells #[.int .i64 0, .int .i64 0, .slice none 0 0] 65)) = V0
  obtain ⟨hb1, hbx, hg0, hsz⟩ := box_world h V0 hV0
  have hv0 := (hv.bx (b := W.heap.size) (by omega)).step (KpX.below hb1) (Nat.le_refl _) (Nat.le_refl _)
  obtain ⟨bb, oo, a0, a1, a2, rfl, c0, c1, c2, hsub⟩ := hv0.at_ hl
  have HS := Lib.hid (fun (V : World) (hb : Below V0.heap.size V0 V) => (rraise_any (hg0.below hb) (hsub.step (KpX.below hb) (Nat.le_refl _) (Nat.le_refl _))).mono fun e w' hp => ROut.box (W := W) (b := W.heap.size) h.hX h.hBW (own_lt h) (Nat.le_refl _) ((hb.block _ hsz).trans hbx) (Stp.below (hb1.trans (hb.mono hb1.size)) h.hBW) ⟨Nat.le_refl _, Nat.le_refl _⟩ hp)
  obtain ⟨k1, n1, A1, l1, d1, rfl, rfl, rfl⟩ := hsub.shape
  clear h hb1 hbx hg0 hsz hv hv0 hsub
  generalize raiseO l[0] s = o at *
  generalize l.length = kl at *
  simp only [Nat.zero_mul, Nat.add_zero] at c0 c1 c2
  have HB0 := Lib.hid (show Below V0.heap.size V0 V0.drew from (Below.refl _ _).drew)
  have HB1 := Lib.hid (show Below V0.heap.size V0 V0 from (Below.refl _ _))
  go_enter Tryd.func75, Tryd.ntmps75
  go_wp2_with (go_at_call 89; refine (HS.out V0 HB1.out).mono ?_; rintro e w' ⟨k, n, A, l, d, rfl, ⟨f0, f1, f2, ff⟩, hR⟩; have HR := Lib.hid hR; clear hR)
  exact bodyPost_ret (v := .agg #[.int .i64 k, .int .i64 n, .slice A l d]) (by simp [results, Tryd.results75, go_sem, f0, f1, f2]) rfl HR.out
theorem VRow.ne {nf nc p b : Nat} {o : Nat} {l : List PV} {A : Option Addr} (h : VRow (Bx X p) nf nc W A l) {i : Nat} (hi : i < l.length) (hA : A = some ⟨b, o, none⟩) : p ≠ b := by
  rcases h with rfl | ⟨b', o', G0, G1, G2, hA', hx, -⟩
  · simp at hi
  · rw [hA] at hA'
    simp only [Option.some.injEq, Addr.mk.injEq, and_true] at hA'
    obtain ⟨rfl, rfl⟩ := hA'
    exact fun e => hx (.inr e.symm)
def getO (a : PV) (s : St) : Out := match a with | .ref i => (.val (s.cells[i]?.getD default), s) | _ => (.stuck, s)
set_option maxRecDepth 100000 in
set_option maxHeartbeats 1000000 in
theorem rprim_get (h : RGo X B mb cb inp fuel s W) {A : Option Addr} {l : List PV} {c : Nat} (hv : VRow X s.fns.length s.cells.length W A l) (hl : 0 < l.length) :
    Calls Tryd.prog 75 #[.pointer (some ⟨mb, 0, none⟩), .int .i64 11, .slice A l.length c] W (ROut X B mb cb inp fuel s (getO l[0] s) W) := by
  generalize hV0 : (W.alloc (.cells #[.int .i64 0, .int .i64 0, .slice none 0 0] 65)) = V0
  obtain ⟨hb1, hbx, hg0, hsz⟩ := box_world h V0 hV0
  have hv0 := (hv.bx (b := W.heap.size) (by omega)).step (KpX.below hb1) (Nat.le_refl _) (Nat.le_refl _)
  obtain ⟨bb, oo, a0, a1, a2, rfl, c0, c1, c2, hsub⟩ := hv0.at_ hl
  have HS := Lib.hid ((rstop_any hg0).mono fun e w' hp => ROut.box (W := W) (b := W.heap.size) h.hX h.hBW (own_lt h) (Nat.le_refl _) hbx (Stp.below hb1 h.hBW) ⟨Nat.le_refl _, Nat.le_refl _⟩ (ROut.stop hp))
  obtain ⟨k1, n1, A1, l1, d1, rfl, rfl, rfl, hr, hnr, -⟩ := hsub.one_
  obtain ⟨o, ho⟩ : ∃ o, getO l[0] s = o := ⟨_, rfl⟩
  rw [ho]
  simp only [Nat.zero_mul, Nat.add_zero] at c0 c1 c2
  have hll : (0 : Int) < (l.length : Int) := by omega
  by_cases hk : k1 = 4
  · subst hk
    obtain ⟨i, hi, hic, rfl⟩ := hr rfl
    obtain ⟨Ac, cc, xs, q5, -, -, hrow⟩ := hg0.celL
    obtain ⟨b2, o2, e0, e1, e2, rfl, d0, d1', d2, hcv⟩ := hrow.at_ hic
    obtain ⟨k3, n3, A3, l3, d3, rfl, rfl, rfl⟩ := hcv.shape
    have hn1 : W.heap.size ≠ bb := hv0.ne hl rfl
    have hn2 : W.heap.size ≠ mb := by have := (own_lt h).1; omega
    have hn3 : W.heap.size ≠ b2 := hrow.ne hic rfl
    obtain rfl : o = (.val s.cells[i], s) := by rw [← ho, hi]; simp [getO, hic]
    obtain ⟨⟨f0, f1, f2, ff⟩, hR⟩ := ROut.box' (X := X) (fuel := fuel) (s1 := s) (o := (.val s.cells[i], s)) (W := W) (W1 := V0) (W2 := V0.drew) (b := W.heap.size) h.hX h.hBW (own_lt h) (Nat.le_refl _) hbx (Stp.below hb1 h.hBW) ⟨Nat.le_refl _, Nat.le_refl _⟩
      (show ROut (Bx X W.heap.size) B mb cb inp fuel s (.val s.cells[i], s) V0 (.returned (.agg #[.int .i64 k3, .int .i64 n3, .slice A3 l3 d3])) V0.drew from
        ⟨Stp.below (Below.refl _ _).drew hg0.hBW, ⟨Nat.le_refl _, Nat.le_refl _⟩, _, _, _, _, _, rfl, hg0.below (Below.refl _ _).drew, hcv.step (KpX.below (Below.refl _ _).drew) (Nat.le_refl _) (Nat.le_refl _)⟩)
    have HR := Lib.hid hR
    have hi0 : (0 : Int) ≤ (i : Int) := by omega
    have hil : (i : Int) < (s.cells.length : Int) := by omega
    have f0' : V0.cell? ⟨W.heap.size, 0, none⟩ = some (.int .i64 0) := f0
    have f1' : V0.cell? ⟨W.heap.size, 1, none⟩ = some (.int .i64 0) := f1
    have f2' : V0.cell? ⟨W.heap.size, 2, none⟩ = some (.slice none 0 0) := f2
    have ff' : ∀ i, V0.frozen? ⟨W.heap.size, i, none⟩ = false := ff
    clear h hb1 hbx hg0 hsz hv hv0 hsub HS hr hnr hrow hcv ho hi hR f0 f1 f2 ff
    generalize ((Res.val s.cells[i], s) : Out) = o at *
    clear hic
    generalize l.length = kl at *
    generalize s.cells.length = cl at *
    have HB0 := Lib.hid (show Below V0.heap.size V0 V0.drew from (Below.refl _ _).drew)
    have HB1 := Lib.hid (show Below V0.heap.size V0 V0 from (Below.refl _ _))
    go_enter Tryd.func75, Tryd.ntmps75
    go_wp2_with fail
    go_region
    all_goals go_wp2_with fail
    all_goals exact bodyPost_ret (v := .agg #[.int .i64 k3, .int .i64 n3, .slice A3 l3 d3]) (by simp [results, Tryd.results75, go_sem, f0', f1', f2']) rfl HR.out
  · obtain rfl : o = (.stuck, s) := by
      rw [← ho]
      have := hnr hk
      unfold getO
      split
      · rename_i i hi; exact absurd hi (this i)
      · rfl
    have hk4 : (k1 == 4) = false := by simpa using hk
    have hk5 : (k1 != 4) = true := by simpa using hk
    clear h hb1 hbx hg0 hsz hv hv0 hsub hr hnr ho hk
    generalize l.length = kl at *
    go_enter Tryd.func75, Tryd.ntmps75
    go_wp2_with (go_at_call 46; refine HS.out.mono ?_; rintro e w' ⟨k, n, A, l, d, rfl, ⟨f0, f1, f2, ff⟩, hR⟩; have HR := Lib.hid hR; clear hR)
    exact bodyPost_ret (v := .agg #[.int .i64 k, .int .i64 n, .slice A l d]) (by simp [results, Tryd.results75, go_sem, f0, f1, f2]) rfl HR.out
end
end Go.Proofs.YtnolhcdfknjncaaDoor

/-
  The document's run: what is done with two ints.
-/
set_option linter.unusedVariables false
set_option linter.unusedSimpArgs false
namespace Go.Proofs.YtnolhcdfknjncaaDoor
open Go.RowKit

section
variable {X Y : Nat → Prop} {B mb cb : Nat} {inp : List Int} {fuel : FL} {s s1 : St} {cut stk rai : Bool} {x0 x1 x2 : Value} {W W' W1 W2 : World} {o : Out}
def arithO (p : Int) (a b : PV) (s : St) : Out := match a, b with
    | .int x, .int y => (match doP p x y with | some n => (.val (.int n), s) | none => (.raised (.int 0), s))
    | _, _ => (.stuck, s)
set_option maxRecDepth 100000 in
set_option maxHeartbeats 1000000 in
theorem rprim_do (h : RGo X B mb cb inp fuel s W) {p : Int} (hp1 : 1 ≤ p) (hp2 : p ≤ 9) {A : Option Addr} {l : List PV} {c : Nat} (hv : VRow X s.fns.length s.cells.length W A l) (hl : 1 < l.length) :
    Calls Tryd.prog 75 #[.pointer (some ⟨mb, 0, none⟩), .int .i64 p, .slice A l.length c] W (ROut X B mb cb inp fuel s (arithO p l[0] l[1] s) W) := by
  generalize hV0 : (W.alloc (.cells #[.int .i64 0, .int .i64 0, .slice none 0 0] 65)) = V0
  obtain ⟨hb1, hbx, hg0, hsz⟩ := box_world h V0 hV0
  have hv0 := (hv.bx (b := W.heap.size) (by omega)).step (KpX.below hb1) (Nat.le_refl _) (Nat.le_refl _)
  obtain ⟨bb, oo, a0, a1, a2, rfl, c0, c1, c2, hsub⟩ := hv0.at_ (show 0 < l.length by omega)
  obtain ⟨bb', oo', b0, b1, b2, he, d0, d1, d2, hsub2⟩ := hv0.at_ hl
  simp only [Option.some.injEq, Addr.mk.injEq, and_true] at he
  obtain ⟨rfl, rfl⟩ := he
  have HS := Lib.hid ((rstop_any hg0).mono fun e w' hp => ROut.box (W := W) (b := W.heap.size) h.hX h.hBW (own_lt h) (Nat.le_refl _) hbx (Stp.below hb1 h.hBW) ⟨Nat.le_refl _, Nat.le_refl _⟩ (ROut.stop hp))
  obtain ⟨k1, n1, A1, l1, d1', rfl, rfl, rfl, -, -, hi1, hn1, -⟩ := hsub.one_
  obtain ⟨k2, n2, A2, l2, d2', rfl, rfl, rfl, -, -, hi2, hn2, -⟩ := hsub2.one_
  obtain ⟨o, ho⟩ : ∃ o, arithO p l[0] l[1] s = o := ⟨_, rfl⟩
  rw [ho]
  simp only [Nat.zero_mul, Nat.add_zero, Nat.one_mul] at c0 c1 c2 d0 d1 d2
  have hll : (0 : Int) < (l.length : Int) := by omega
  have hll1 : (1 : Int) < (l.length : Int) := by omega
  have q10 : (p == 10) = false := by simp; omega
  have q11 : (p == 11) = false := by simp; omega
  have q12 : (p == 12) = false := by simp; omega
  have q13 : (p == 13) = false := by simp; omega
  have q14 : (p == 14) = false := by simp; omega
  have q15 : (p == 15) = false := by simp; omega
  by_cases hk1 : k1 = 1
  · subst hk1
    by_cases hk2 : k2 = 1
    · subst hk2
      have e1 := hi1 rfl
      have e2 := hi2 rfl
      rw [e1, e2] at ho
      simp only [arithO] at ho
      clear hi1 hn1 hi2 hn2 hsub hsub2 hv hv0 HS e1 e2 hl
      generalize l.length = kl at *
      have hkl0 : 0 < kl := by omega
      have hkl1 : 1 < kl := by omega
      rcases hd : doP p n1 n2 with _ | n
      · obtain rfl : o = (.raised (.int 0), s) := by rw [← ho, hd]
        have HD := Lib.hid (fun w => (rdo_any p n1 n2 hp1 hp2 w).mono fun e w' hp => (show e = .returned (.tuple #[.int .i64 0, .int .i64 2]) ∧ Below w.heap.size w w' from by
          rcases hp with ⟨n, h1, h2⟩ | ⟨h1, h2⟩
          · rw [hd] at h1; cases h1
          · exact h2))
        have HS := Lib.hid (fun (V : World) (hb : Below V0.heap.size V0 V) => (rraise_any (hg0.below hb) (.int 0)).mono fun e w' hp => ROut.box (X := X) (fuel := fuel) (W := W) (b := W.heap.size) (s := s) (o := (.raised (.int 0), s)) h.hX h.hBW (own_lt h) (Nat.le_refl _) ((hb.block _ hsz).trans hbx) (Stp.below (hb1.trans (hb.mono hb1.size)) h.hBW) ⟨Nat.le_refl _, Nat.le_refl _⟩ hp)
        clear h hg0 hbx hb1 hsz hd ho
        go_enter Tryd.func75, Tryd.ntmps75
        go_wp2_with fail
        go_region_law ((first
          | (go_simp; go_at_call 90; refine (HD.out _).mono ?_; rintro e w' ⟨rfl, hbd⟩; have HB := Lib.hid hbd; clear hbd)))
        all_goals
          go_wp2_with (first
            | (go_at_call 47; refine (vint_any _ _).mono ?_; rintro e w2 ⟨rfl, hbi⟩; have HRR := Lib.hid (HS.out _ (((Below.refl V0.heap.size V0).drew.trans HB.out).trans (hbi.mono HB.out.size))))
            | (go_at_call 89; refine HRR.out.mono ?_; rintro e w' ⟨k, n, A, l, d, rfl, ⟨f0, f1, f2, ff⟩, hR⟩; have HR := Lib.hid hR; clear hR))
          exact bodyPost_ret (v := .agg #[.int .i64 k, .int .i64 n, .slice A l d]) (by simp [results, Tryd.results75, go_sem, f0, f1, f2]) rfl HR.out
      · obtain rfl : o = (.val (.int n), s) := by rw [← ho, hd]
        have HD := Lib.hid (fun w => (rdo_any p n1 n2 hp1 hp2 w).mono fun e w' hp => (show e = .returned (.tuple #[.int .i64 n, .int .i64 0]) ∧ Below w.heap.size w w' from by
          rcases hp with ⟨n', h1, h2⟩ | ⟨h1, h2⟩
          · rw [hd] at h1; cases h1; exact h2
          · rw [hd] at h1; cases h1))
        have HP := Lib.hid (fun (V : World) (hb : Below V0.heap.size V0 V) => ROut.box' (X := X) (fuel := fuel) (s1 := s) (o := (.val (.int n), s)) (W := W) (W1 := V0) (W2 := V) (b := W.heap.size) h.hX h.hBW (own_lt h) (Nat.le_refl _) hbx (Stp.below hb1 h.hBW) ⟨Nat.le_refl _, Nat.le_refl _⟩
          (show ROut (Bx X W.heap.size) B mb cb inp fuel s (.val (.int n), s) V0 (.returned (.agg #[.int .i64 1, .int .i64 n, .slice none 0 0])) V from
            ⟨Stp.below hb hg0.hBW, ⟨Nat.le_refl _, Nat.le_refl _⟩, _, _, _, _, _, rfl, hg0.below hb, .int _⟩))
        clear h hg0 hbx hb1 hsz hd ho
        go_enter Tryd.func75, Tryd.ntmps75
        go_wp2_with fail
        go_region_law ((first
          | (go_simp; go_at_call 90; refine (HD.out _).mono ?_; rintro e w' ⟨rfl, hbd⟩; have HB := Lib.hid hbd; clear hbd)))
        all_goals
          go_wp2_with (first
            | (go_at_call 47; refine (vint_any _ _).mono ?_; rintro e w2 ⟨rfl, hbi⟩; obtain ⟨⟨f0, f1, f2, ff⟩, hR⟩ := HP.out _ (((Below.refl V0.heap.size V0).drew.trans HB.out).trans (hbi.mono HB.out.size)); have HR := Lib.hid hR; clear hR))
          exact bodyPost_ret (v := .agg #[.int .i64 1, .int .i64 n, .slice none 0 0]) (by simp [results, Tryd.results75, go_sem, f0, f1, f2]) rfl HR.out
    · obtain rfl : o = (.stuck, s) := by
        rw [← ho]
        have := hn2 hk2
        unfold arithO
        split
        · rename_i i j hi hj; exact absurd hj (this j)
        · rfl
      have hk4 : (k2 == 1) = false := by simpa using hk2
      have hk5 : (k2 != 1) = true := by simpa using hk2
      clear h hb1 hbx hg0 hsz hv hv0 hsub hsub2 hi1 hn1 hi2 hn2 ho hk2 hl
      generalize l.length = kl at *
      go_enter Tryd.func75, Tryd.ntmps75
      go_wp2_with (go_at_call 46; refine HS.out.mono ?_; rintro e w' ⟨k, n, A, l, d, rfl, ⟨f0, f1, f2, ff⟩, hR⟩; have HR := Lib.hid hR; clear hR)
      exact bodyPost_ret (v := .agg #[.int .i64 k, .int .i64 n, .slice A l d]) (by simp [results, Tryd.results75, go_sem, f0, f1, f2]) rfl HR.out
  · obtain rfl : o = (.stuck, s) := by
      rw [← ho]
      have := hn1 hk1
      unfold arithO
      split
      · rename_i i j hi hj; exact absurd hi (this i)
      · rfl
    have hk4 : (k1 == 1) = false := by simpa using hk1
    have hk5 : (k1 != 1) = true := by simpa using hk1
    clear h hb1 hbx hg0 hsz hv hv0 hsub hsub2 hi1 hn1 hi2 hn2 ho hk1 hl
    generalize l.length = kl at *
    go_enter Tryd.func75, Tryd.ntmps75
    go_wp2_with (go_at_call 46; refine HS.out.mono ?_; rintro e w' ⟨k, n, A, l, d, rfl, ⟨f0, f1, f2, ff⟩, hR⟩; have HR := Lib.hid hR; clear hR)
    exact bodyPost_ret (v := .agg #[.int .i64 k, .int .i64 n, .slice A l d]) (by simp [results, Tryd.results75, go_sem, f0, f1, f2]) rfl HR.out
end
end Go.Proofs.YtnolhcdfknjncaaDoor
