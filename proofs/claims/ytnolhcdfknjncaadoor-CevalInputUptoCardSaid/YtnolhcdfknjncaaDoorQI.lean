/-
  8 texts of this seat in one: I1 I2 I3 I4 I5 I6 I7 I8.
-/
import Derived.Test.YtnolhcdfknjncaaDoorQL
import Derived.Maps.AppendAt
import Derived.Test.YtnolhcdfknjncaaDoorQA
import Derived.Deep.RegionHeld2
/-
  The document's items: a term's nodes and their depths, in order, cut off where they are too many or too deep.
-/
set_option linter.unusedVariables false
set_option linter.unusedSimpArgs false
namespace Go.Proofs.YtnolhcdfknjncaaDoor
open Go.RowKit

/-! ### plain words -/
mutual
/-- what is appended for a term, so many items standing ahead -/
def itemsF (h : Nat) (d : Int) : Core → List (Int × Core)
  | .mk k n ks cs => if 65536 < h then [] else (d, .mk k n ks cs) :: (if 400 < d then [] else itemsFs (h + 1) (d + 1) cs)
def itemsFs (h : Nat) (d : Int) : List Core → List (Int × Core)
  | [] => []
  | c :: cs => if 65536 < h then [] else itemsF h d c ++ itemsFs (h + (itemsF h d c).length) d cs
end
theorem itemsFs_stop {h : Nat} {d : Int} {cs : List Core} (hh : 65536 < h) : itemsFs h d cs = [] := by
  cases cs <;> simp [itemsFs, hh]
theorem itemsFs_step {h : Nat} {d : Int} {cs : List Core} {j : Nat} (hj : j < cs.length) (hh : ¬ 65536 < h) : itemsFs h d (cs.drop j) = itemsF h d cs[j] ++ itemsFs (h + (itemsF h d cs[j]).length) d (cs.drop (j + 1)) := by
  rw [List.drop_eq_getElem_cons hj, itemsFs, if_neg hh]

/-- an item as it is told -/
structure ItemX (B : Nat) (w0 : World) where
  d : Int
  t : Core
  c0 : Value
  c1 : Value
  c2 : Value
  c3 : Value
  hin : CoreIn B w0 t #[c0, c1, c2, c3]
  hd : 0 ≤ d ∧ d ≤ 401
section
variable {B : Nat} {w0 : World}
def cellsI (l : List (ItemX B w0)) : List Value := l.flatMap fun x => [x.c0, x.c1, x.c2, x.c3, .int .i64 x.d]
def projI (l : List (ItemX B w0)) : List (Int × Core) := l.map fun x => (x.d, x.t)
theorem cellsI_append (a b : List (ItemX B w0)) : cellsI (a ++ b) = cellsI a ++ cellsI b := by simp [cellsI]
theorem cellsI_one (x : ItemX B w0) : cellsI [x] = [x.c0, x.c1, x.c2, x.c3, .int .i64 x.d] := by simp [cellsI]
end
/-- a row that grew -/
structure RowAt (W0 : World) (base : Nat) (rv : Value) (n : Nat) (xs : List Value) (u : Value) (wr : World) : Prop where
  row : wr.ownsRow base 71 5 u n xs
  grow : W0.grownBy wr rv.ownBlock
  at_ : u.ownBlock = rv.ownBlock ∨ ∃ g, u.ownBlock = some g ∧ W0.heap.size ≤ g
theorem grownBy_refl (W : World) (r : Option Nat) : W.grownBy W r := ⟨rfl, rfl, rfl, Nat.le_refl _, fun _ _ _ => rfl⟩
theorem grownBy_trans {W W1 W2 : World} {r r1 : Option Nat} (h : W.grownBy W1 r) (k : W1.grownBy W2 r1) (hr : r1 = r ∨ ∃ g, r1 = some g ∧ W.heap.size ≤ g) : W.grownBy W2 r :=
  ⟨k.os.trans h.os, k.tape.trans h.tape, k.output.trans h.output, Nat.le_trans h.size k.size, fun x hx hne => (k.block x (Nat.lt_of_lt_of_le hx h.size) (by
    rcases hr with rfl | ⟨g, rfl, hg⟩
    · exact hne
    · intro he; cases he; omega)).trans (h.block x hx hne)⟩
theorem RowAt.trans {W W1 W2 : World} {base : Nat} {rv u1 u2 : Value} {n1 n2 : Nat} {x1 x2 : List Value} (h : RowAt W base rv n1 x1 u1 W1) (k : RowAt W1 base u1 n2 x2 u2 W2) : RowAt W base rv n2 x2 u2 W2 :=
  ⟨k.row, grownBy_trans h.grow k.grow h.at_, by
    rcases k.at_ with h1 | ⟨g, h1, h2⟩
    · rw [h1]; exact h.at_
    · exact .inr ⟨g, h1, Nat.le_trans h.grow.size h2⟩⟩
/-- how a call of items ends -/
def ItemsPost {B : Nat} (w0 : World) (base : Nat) (rv : Value) (pre : List (ItemX B w0)) (l : List (Int × Core)) (W : World) (e : Ending) (W' : World) : Prop :=
  ∃ u, ∃ q : List (ItemX B w0), e = .returned u ∧ projI q = l ∧ RowAt W base rv (pre ++ q).length (cellsI (pre ++ q)) u W'

theorem und68 : Tryd.prog.underlying 68 = some (.slice 71) := by kernel_rfl
theorem info71 : (Tryd.prog.info? 71).map (fun i => (i.zero, i.size, i.bytes)) = some (some (.agg #[.int .i64 0, .int .i64 0, .slice none 0 0, .slice none 0 0, .int .i64 0]), 5, 72) := by kernel_rfl
theorem owns_shape {w : World} {base : Nat} {e : TypeId} {size : Nat} {v : Value} {n : Nat} {xs : List Value} (h : w.ownsRow base e size v n xs) : ∃ A c, v = .slice A n c := by
  rcases h.2 with ⟨rfl, rfl⟩ | ⟨g, cap, cur, rfl, _⟩ <;> exact ⟨_, _, rfl⟩
theorem cells5 (w : World) (a b c d e : Value) (T : TypeId) : ∀ j u, [a, b, c, d, e][j]? = some u → (w.alloc (.cells #[a, b, c, d, e] T)).cell? ((⟨w.heap.size, 0, none⟩ : Addr).add j) = some u := by
  intro j u h
  have ha : (⟨w.heap.size, 0, none⟩ : Addr).add j = ⟨w.heap.size, 0 + j, none⟩ := by unfold Addr.add; split <;> simp_all
  rw [ha, World.cell?_alloc_at _ _ _ _ rfl]
  rw [Nat.zero_add]
  simpa using h

set_option maxRecDepth 100000 in
set_option maxHeartbeats 2000000 in
theorem items_any {B base : Nat} {w0 : World} {t : Core} {v : Array Value} (hin : CoreIn B w0 t v) : ∀ (W : World) (d : Int) (pre : List (ItemX B w0)) (u : Value), Stay B w0 W → B ≤ base → base ≤ W.heap.size → 0 ≤ d ∧ d ≤ 401 → W.ownsRow base 71 5 u pre.length (cellsI pre) →
    Calls Tryd.prog 55 #[u, .agg v, .int .i64 d] W (ItemsPost w0 base u pre (itemsF pre.length d t) W) := by
  induction hin with
  | @mk k n ks cs Ak ck Ac cc b o G0 G1 G2 G3 hks hck hcc hcl hA c0 c1 c2 c3 hsub ih =>
    intro W d pre u hst hBb hbW hd hrow
    have hme : CoreIn B w0 (.mk k n ks cs) #[.int .i64 k, .int .i64 n, .slice Ak ks.length ck, .slice Ac cs.length cc] := CoreIn.mk hks hck hcc hcl hA c0 c1 c2 c3 hsub
    obtain ⟨x0, hx0⟩ : ∃ x0 : ItemX B w0, x0 = ⟨d, .mk k n ks cs, _, _, _, _, hme, hd⟩ := ⟨_, rfl⟩
    obtain ⟨W0, hW0⟩ : ∃ W0, W.alloc (.cells #[.int .i64 k, .int .i64 n, .slice Ak ks.length ck, .slice Ac cs.length cc] 26) = W0 := ⟨_, rfl⟩
    have hb0 : Below W.heap.size W W0 := by rw [← hW0]; exact (Below.refl _ _).alloc (Nat.le_refl _) _
    have hs0 : W0.heap.size = W.heap.size + 1 := by rw [← hW0]; simp
    have h00 : W0.heap[W.heap.size]? = some (.cells #[.int .i64 k, .int .i64 n, .slice Ak ks.length ck, .slice Ac cs.length cc] 26 (0, 0)) := by rw [← hW0]; exact World.alloc_heap_new W _
    have hrow0 : W0.ownsRow base 71 5 u pre.length (cellsI pre) := by rw [← hW0]; exact hrow.alloc _
    have hg0 : W.grownBy W0 u.ownBlock := by rw [← hW0]; exact World.grownBy_alloc W _ _
    have hub : u.ownBlock ≠ some W.heap.size := fun e => by have := (hrow.lt _ e).2; omega
    obtain ⟨Au, cu, hu⟩ := owns_shape hrow
    -- the box lies as it lay wherever the row alone grew
    have HBOX := Lib.hid (fun (V : World) (hV : W0.grownBy V u.ownBlock) => (show V.cell? ⟨W.heap.size, 0, none⟩ = some (.int .i64 k) ∧ V.cell? ⟨W.heap.size, 1, none⟩ = some (.int .i64 n) ∧ V.cell? ⟨W.heap.size, 2, none⟩ = some (.slice Ak ks.length ck) ∧ V.cell? ⟨W.heap.size, 3, none⟩ = some (.slice Ac cs.length cc) from by
      have h := (hV.block W.heap.size (by omega) (fun e => hub e.symm)).trans h00
      simp [World.cell?, h]))
    obtain ⟨z0, z1, z2, z3⟩ := HBOX.out W0 (grownBy_refl _ _)
    by_cases hlen : 65536 < pre.length
    · -- too many
      have hP : ItemsPost w0 base u pre (itemsF pre.length d (.mk k n ks cs)) W (.returned u) W0 :=
        ⟨u, [], rfl, by simp [projI, itemsF, hlen], by simpa using (⟨hrow0, hg0, .inl rfl⟩ : RowAt W base u pre.length (cellsI pre) u W0)⟩
      have HP := Lib.hid hP
      have hlen' : (65536 : Int) < (pre.length : Int) := by omega
      clear hP hrow hrow0 hg0 ih hsub c0 c1 c2 c3 hme hx0
      subst hu
      generalize pre.length = L at *
      go_enter Tryd.func55, Tryd.ntmps55
      go_wp2_with fail
      go_ret
      exact HP.out
    · -- room for one more
      have hL : pre.length ≤ 65536 := by omega
      have hl2 : (pre ++ [x0]).length = pre.length + 1 := by simp
      have hstay : ∀ V, W0.grownBy V u.ownBlock → Stay B w0 V := fun V hV c q x hc hx => by
        have h1 := hst c q x hc hx
        have h2 : W0.cell? ⟨c, q, none⟩ = some x := (hb0.cell (p := ⟨c, q, none⟩) (by show c < _; omega)).trans h1
        exact (World.cell?_of_block (a := ⟨c, q, none⟩) (hV.block c (by omega) (fun e => by have := (hrow.lt c e.symm).1; omega))).trans h2
      have HFIN := Lib.hid (fun (q : List (ItemX B w0)) (u' : Value) (wr : World) (m : Nat) (hm : m = (pre ++ x0 :: q).length) (hr : RowAt W0 base u m (cellsI (pre ++ x0 :: q)) u' wr) (hq : (if 400 < d then [] else itemsFs (pre.length + 1) (d + 1) cs) = projI q) =>
        (show ItemsPost w0 base u pre (itemsF pre.length d (.mk k n ks cs)) W (.returned u') wr from by
          refine ⟨u', x0 :: q, rfl, ?_, ?_⟩
          · rw [itemsF, if_neg hlen, hq, hx0]; rfl
          · rw [hm] at hr
            exact ⟨hr.row, grownBy_trans hg0 hr.grow (.inl rfl), hr.at_.imp id (fun ⟨g, h1, h2⟩ => ⟨g, h1, by omega⟩)⟩))
      have HK := Lib.hid (fun (j : Nat) (hj : j < cs.length) (hd4 : ¬ 400 < d) (V : World) (hV : W0.grownBy V u.ownBlock) =>
        (show ∃ y0 y1 A2 n2 d2 A3 n3 d3, Ac = some ⟨b, o, none⟩ ∧ V.cell? ⟨b, o + j * 4, none⟩ = some (.int .i64 y0) ∧ V.cell? ⟨b, o + j * 4 + 1, none⟩ = some (.int .i64 y1) ∧ V.cell? ⟨b, o + j * 4 + 2, none⟩ = some (.slice A2 n2 d2) ∧ V.cell? ⟨b, o + j * 4 + 3, none⟩ = some (.slice A3 n3 d3) ∧
            ∀ (pre' : List (ItemX B w0)) (u' : Value), V.ownsRow base 71 5 u' pre'.length (cellsI pre') → Calls Tryd.prog 55 #[u', .agg #[.int .i64 y0, .int .i64 y1, .slice A2 n2 d2, .slice A3 n3 d3], .int .i64 (d + 1)] V (ItemsPost w0 base u' pre' (itemsF pre'.length (d + 1) cs[j]) V) from by
          obtain ⟨y0, y1, A2, n2, d2, A3, n3, d3, hsh⟩ := (hsub j hj).shape
          have hs := hsh
          simp only [Array.mk.injEq, List.cons.injEq, and_true] at hsh
          obtain ⟨s0, s1, s2, s3⟩ := hsh
          obtain ⟨ha, hbB⟩ := hA (by omega)
          have hstV := hstay V hV
          refine ⟨y0, y1, A2, n2, d2, A3, n3, d3, ha, ?_, ?_, ?_, ?_, fun pre' u' hu' => ?_⟩
          · rw [← s0]; exact hstV _ _ _ hbB (c0 j hj)
          · rw [← s1]; exact hstV _ _ _ hbB (c1 j hj)
          · rw [← s2]; exact hstV _ _ _ hbB (c2 j hj)
          · rw [← s3]; exact hstV _ _ _ hbB (c3 j hj)
          · rw [← hs]
            exact ih j hj V (d + 1) pre' u' hstV hBb (Nat.le_trans hbW (by have := hV.size; omega)) (by omega) hu'))
      have hcx : cellsI pre ++ [Value.int .i64 k, .int .i64 n, .slice Ak ks.length ck, .slice Ac cs.length cc, .int .i64 d] = cellsI (pre ++ [x0]) := by rw [cellsI_append, cellsI_one, hx0]
      have HST := Lib.hid (fun (w1 : World) (u1 : Value) (h1 : w1.ownsRow base 71 5 u1 (pre.length + 1) (cellsI pre ++ [Value.int .i64 k, .int .i64 n, .slice Ak ks.length ck, .slice Ac cs.length cc, .int .i64 d]))
          (h2 : (W0.alloc (.cells #[.int .i64 k, .int .i64 n, .slice Ak ks.length ck, .slice Ac cs.length cc, .int .i64 d] 71)).grownBy w1 u.ownBlock) (h3 : u1.ownBlock = u.ownBlock ∨ u1.ownBlock = some (W0.alloc (.cells #[.int .i64 k, .int .i64 n, .slice Ak ks.length ck, .slice Ac cs.length cc, .int .i64 d] 71)).heap.size) =>
        (show RowAt W0 base u (pre.length + 1) (cellsI (pre ++ [x0])) u1 w1 from by
          refine ⟨hcx ▸ h1, grownBy_trans (World.grownBy_alloc W0 _ _) h2 (.inl rfl), h3.imp id (fun h => ⟨_, h, by simp⟩)⟩))
      have HROW := Lib.hid (hrow0.alloc (.cells #[.int .i64 k, .int .i64 n, .slice Ak ks.length ck, .slice Ac cs.length cc, .int .i64 d] 71))
      have hlen' : ¬ (65536 : Int) < (pre.length : Int) := by omega
      have HB := Lib.hid (show base ≤ (W0.alloc (.cells #[.int .i64 k, .int .i64 n, .slice Ak ks.length ck, .slice Ac cs.length cc, .int .i64 d] 71)).heap.size from by simp; omega)
      have hml : pre.length + 1 ≤ maxLen := by unfold maxLen; omega
      have hby : (pre.length + 1) * 72 ≤ 140737488355328 := by omega
      have hkl := hks.1
      have hcl3 : cs.length ≤ 3000000000000 := by omega
      have HL1 := Lib.hid hl2
      obtain ⟨i0, hinf, hz0, hz1, hz2⟩ := info_parts info71
      clear hcx hl2 hstay hrow hrow0 hg0 ih hsub c0 c1 c2 c3 hme hx0 hst hA hb0 hs0 h00 hub hks
      subst hu
      obtain ⟨L, hLL⟩ : ∃ L, pre.length = L := ⟨_, rfl⟩
      obtain ⟨cl, hcl2⟩ : ∃ cl, cs.length = cl := ⟨_, rfl⟩
      obtain ⟨kl, hkl2⟩ : ∃ kl, ks.length = kl := ⟨_, rfl⟩
      have HLL := Lib.hid hLL
      have HCL := Lib.hid hcl2
      rw [hcl2] at hcl3 hW0 z3 HROW HBOX HST HB ⊢
      rw [hkl2] at hW0 z2 HROW HBOX HST HB hkl ⊢
      rw [hLL] at HROW HST hlen' hml hby HFIN HL1 HBOX HK ⊢
      clear hLL hcl2 hkl2 hcc hcl hck hL hlen
      by_cases hd4 : 400 < d
      · go_enter Tryd.func55, Tryd.ntmps55
        go_wp2_with (at_builtin; refine wpList_append_own_at _ rfl _ _ 68 rfl base 71 i0 (.agg #[.int .i64 0, .int .i64 0, .slice none 0 0, .slice none 0 0, .int .i64 0]) 5 72 und68 hinf hz0 hz1 hz2 rfl (by decide) _ _ _ rfl HROW.out ⟨W0.heap.size, 0, none⟩ 1 1 [.int .i64 k, .int .i64 n, .slice Ak kl ck, .slice Ac cl cc, .int .i64 d] rfl rfl (cells5 _ _ _ _ _ _ _) (by simp [Value.oneCell']) hml hby HB.out ?_; intro u1 w1 hown1 hgrow1 _ hat1; have HR1 := Lib.hid (HST.out w1 u1 hown1 hgrow1 hat1); obtain ⟨A1, c1, rfl⟩ := owns_shape hown1; clear hown1 hgrow1 hat1; obtain ⟨y0, y1, y2, y3⟩ := HBOX.out w1 HR1.out.grow)
        go_ret
        exact HFIN.out [] _ _ _ HL1.out.symm HR1.out (by rw [if_pos hd4]; rfl)
      · have hd41 : IntKind.i64.wrap (d + 1) = d + 1 := by rw [IntKind.wrap_i64]; omega
        go_enter Tryd.func55, Tryd.ntmps55
        go_wp2_with (at_builtin; refine wpList_append_own_at _ rfl _ _ 68 rfl base 71 i0 (.agg #[.int .i64 0, .int .i64 0, .slice none 0 0, .slice none 0 0, .int .i64 0]) 5 72 und68 hinf hz0 hz1 hz2 rfl (by decide) _ _ _ rfl HROW.out ⟨W0.heap.size, 0, none⟩ 1 1 [.int .i64 k, .int .i64 n, .slice Ak kl ck, .slice Ac cl cc, .int .i64 d] rfl rfl (cells5 _ _ _ _ _ _ _) (by simp [Value.oneCell']) hml hby HB.out ?_; intro u1 w1 hown1 hgrow1 _ hat1; have HR1 := Lib.hid (HST.out w1 u1 hown1 hgrow1 hat1); obtain ⟨A1, c1, rfl⟩ := owns_shape hown1; clear hown1 hgrow1 hat1; obtain ⟨y0, y1, y2, y3⟩ := HBOX.out w1 HR1.out.grow)
        go_loopw [0, 24] (fun l i wr => ∃ (j m : Nat) (A : Option Addr) (c : Nat), j ≤ cl ∧ i = .int .i64 (j : Int) ∧ l = .slice A m c ∧ Hid (∃ q : List (ItemX B w0), m = (pre ++ x0 :: q).length ∧ RowAt W0 base (.slice Au L cu) m (cellsI (pre ++ x0 :: q)) (.slice A m c) wr ∧ itemsFs (L + 1) (d + 1) cs = projI q ++ itemsFs m (d + 1) (cs.drop j))) (fun _ i _ => cl + 1 - (intOf i).toNat)
        case atStart => exact ⟨0, L + 1, A1, c1, by omega, rfl, rfl, Lib.hid ⟨[], HL1.out.symm, HR1.out, by simp [projI]⟩⟩
        case round =>
          obtain ⟨j, m, A, c, hj, rfl, rfl, hinv⟩ := hrel
          clear y0 y1 y2 y3
          obtain ⟨q, hm, hr, heq⟩ := hinv.out
          clear hinv
          obtain ⟨z0, z1, z2, z3⟩ := HBOX.out wr hr.grow
          have HM := Lib.hid hm
          have HR := Lib.hid hr
          clear hm hr
          by_cases hlt : j < cl
          · have hj0 : (0 : Int) ≤ (j : Int) := by omega
            have hjl : (j : Int) < (cl : Int) := by omega
            by_cases hm6 : 65536 < m
            · have hm6' : (65536 : Int) < (m : Int) := by omega
              have HE := Lib.hid (heq.trans (by rw [itemsFs_stop hm6, List.append_nil]))
              clear heq
              go_wp2_with fail
              go_ret
              exact HFIN.out q _ _ _ HM.out HR.out (by rw [if_neg (show ¬ 400 < d from by omega)]; exact HE.out)
            · have hm6' : ¬ (65536 : Int) < (m : Int) := by omega
              have hjc : j < cs.length := by rw [HCL.out]; exact hlt
              obtain ⟨x0', x1, A2, n2, d2, A3, n3, d3, rfl, r0, r1, r2, r3, hC⟩ := HK.out j hjc hd4 wr HR.out.grow
              have HC := Lib.hid (hC (pre ++ x0 :: q) (.slice A m c) (by rw [← HM.out]; exact HR.out.row))
              have HE := Lib.hid (heq.trans (by rw [itemsFs_step hjc hm6]))
              clear hC heq
              go_wp2_with (go_at_call 55; refine HC.out.mono ?_; rintro e w' ⟨u2, q2, rfl, hq2, hr2⟩; obtain ⟨m2, hm2⟩ : ∃ m2, (pre ++ x0 :: q ++ q2).length = m2 := ⟨_, rfl⟩; rw [hm2] at hr2; have HM2 := Lib.hid hm2; have HR2 := Lib.hid (HR.out.trans hr2); have HQ2 := Lib.hid hq2; obtain ⟨A4, c4, rfl⟩ := owns_shape hr2.row; clear hr2 hq2 hm2)
              go_roundw
              case rel =>
                have h2 : projI q2 = itemsF m (d + 1) cs[j] := by have h := HQ2.out; rwa [← HM.out] at h
                have h1 : q2.length = (itemsF m (d + 1) cs[j]).length := by rw [← h2]; simp [projI]
                have hlen2 : m2 = m + (itemsF m (d + 1) cs[j]).length := by rw [← HM2.out, List.length_append, ← HM.out, h1]
                refine ⟨j + 1, m2, A4, c4, by omega, by go_num, rfl, Lib.hid ⟨q ++ q2, by rw [← HM2.out]; simp, ?_, ?_⟩⟩
                · simpa using HR2.out
                · rw [hlen2]
                  refine HE.out.trans ?_
                  rw [← h2]
                  simp [projI]
              case measure => simp [intOf]; omega
          · have hjl : ¬ (j : Int) < (cl : Int) := by omega
            have hdr : cs.drop j = [] := List.drop_eq_nil_iff.2 (by rw [HCL.out]; omega)
            have HE := Lib.hid (heq.trans (by rw [hdr]; simp [itemsFs] : _ = projI q))
            clear heq hdr
            go_wp2_with fail
            go_ret
            exact HFIN.out q _ _ _ HM.out HR.out (by rw [if_neg (show ¬ 400 < d from by omega)]; exact HE.out)
end Go.Proofs.YtnolhcdfknjncaaDoor

/-
  The document's node: its parts without loops.
-/
set_option linter.unusedVariables false
set_option linter.unusedSimpArgs false
namespace Go.Proofs.YtnolhcdfknjncaaDoor
open Go.RowKit

def varB (n : Int) : Bool := decide (0 ≤ n ∧ n < 65536)
def intB (n : Int) : Bool := decide (-1073741824 ≤ n ∧ n ≤ 1073741823)
def twoB (n : Int) : Bool := decide ((1 ≤ n ∧ n ≤ 9) ∨ n = 12 ∨ n = 16)
def numB (k n : Int) : Bool :=
  if k = 1 ∨ k = 3 ∨ k = 5 then varB n else if k = 2 then intB n else if k = 7 then decide (0 ≤ n ∧ n ≤ 1023) else if k = 8 then decide (0 ≤ n ∧ n ≤ 7) else if k = 10 then true else decide (n = 0)
def cntR (k n : Int) (nk nc : Nat) : Bool :=
  if k = 6 then decide (2 ≤ nk ∧ nk % 2 = 0 ∧ nc = nk / 2 + 1)
  else if k = 9 then decide (nc = nk + 2)
  else if k = 1 ∨ k = 2 then decide (nk = 0 ∧ nc = 0)
  else if k = 3 ∨ k = 8 then decide (nk = 0 ∧ nc = 1)
  else if k = 4 ∨ k = 5 then decide (nk = 0 ∧ nc = 2)
  else if k = 7 then decide (nk = 0 ∧ 1 ≤ nc ∧ nc ≤ 8)
  else decide (nk = 0 ∧ nc = if twoB n then 2 else 1)

theorem variable_any (n : Int) (w : World) : Calls Tryd.prog 77 #[.int .i64 n] w fun e w' => e = .returned (.bool (varB n)) ∧ w = w' := by
  by_cases h : 0 ≤ n
  · go_enter Tryd.func77, Tryd.ntmps77
    go_wp2
    go_ret
    exact ⟨ret_bool (by rw [Bool.eq_iff_iff]; simp [varB] <;> omega), rfl⟩
  · go_enter Tryd.func77, Tryd.ntmps77
    go_wp2
    go_ret
    exact ⟨ret_bool (by rw [Bool.eq_iff_iff]; simp [varB] <;> omega), rfl⟩
theorem rint_any (n : Int) (w : World) : Calls Tryd.prog 78 #[.int .i64 n] w fun e w' => e = .returned (.bool (intB n)) ∧ w = w' := by
  by_cases h : -1073741824 ≤ n
  · go_enter Tryd.func78, Tryd.ntmps78
    go_wp2
    go_ret
    exact ⟨ret_bool (by rw [Bool.eq_iff_iff]; simp [intB] <;> omega), rfl⟩
  · go_enter Tryd.func78, Tryd.ntmps78
    go_wp2
    go_ret
    exact ⟨ret_bool (by rw [Bool.eq_iff_iff]; simp [intB] <;> omega), rfl⟩
theorem two_any (n : Int) (w : World) : Calls Tryd.prog 79 #[.int .i64 n] w fun e w' => e = .returned (.bool (twoB n)) ∧ w = w' := by
  by_cases h1 : 1 ≤ n
  · by_cases h9 : n ≤ 9
    · go_enter Tryd.func79, Tryd.ntmps79
      go_wp2
      go_ret
      exact ⟨ret_bool (by rw [Bool.eq_iff_iff]; simp [twoB] <;> omega), rfl⟩
    · by_cases h12 : n = 12
      · subst h12
        go_enter Tryd.func79, Tryd.ntmps79
        go_wp2
        go_ret
        exact ⟨ret_bool (by rw [Bool.eq_iff_iff]; simp [twoB] <;> omega), rfl⟩
      · have h12' : (n == 12) = false := by simpa using h12
        go_enter Tryd.func79, Tryd.ntmps79
        go_wp2
        go_ret
        exact ⟨ret_bool (by rw [Bool.eq_iff_iff]; simp [twoB] <;> omega), rfl⟩
  · have h12' : (n == 12) = false := by simp; omega
    go_enter Tryd.func79, Tryd.ntmps79
    go_wp2
    go_ret
    exact ⟨ret_bool (by rw [Bool.eq_iff_iff]; simp [twoB] <;> omega), rfl⟩

set_option maxRecDepth 100000 in
set_option maxHeartbeats 1600000 in
theorem rnumber_any (k n : Int) (ks cs : Value) (w : World) :
    Calls Tryd.prog 56 #[.agg #[.int .i64 k, .int .i64 n, ks, cs]] w fun e w' => e = .returned (.bool (numB k n)) ∧ Below w.heap.size w w' := by
  by_cases h0 : 0 ≤ n
  all_goals
    go_enter Tryd.func56, Tryd.ntmps56
    go_wp2_with (first | (go_at_call 77; refine (variable_any _ _).mono ?_; rintro e w' ⟨rfl, rfl⟩) | (go_at_call 78; refine (rint_any _ _).mono ?_; rintro e w' ⟨rfl, rfl⟩))
  all_goals
    go_ret
    exact ⟨ret_bool (by rw [Bool.eq_iff_iff]; simp_all [numB] <;> omega), ((Below.refl _ _).alloc (Nat.le_refl _) _)⟩
end Go.Proofs.YtnolhcdfknjncaaDoor

/-
  The document's node: counts, keys.
-/
set_option linter.unusedVariables false
set_option linter.unusedSimpArgs false
namespace Go.Proofs.YtnolhcdfknjncaaDoor
open Go.RowKit

set_option maxRecDepth 100000 in
set_option maxHeartbeats 3200000 in
theorem rcount_any (k n : Int) (Ak Ac : Option Addr) (nk ck nc cc : Nat) (w : World) (hn1 : nk ≤ 9000000000000000000) (hn2 : nc ≤ 9000000000000000000) (h1 : 1 ≤ k) (h2 : k ≤ 10) :
    Calls Tryd.prog 57 #[.agg #[.int .i64 k, .int .i64 n, .slice Ak nk ck, .slice Ac nc cc]] w fun e w' => e = .returned (.bool (cntR k n nk nc)) ∧ Below w.heap.size w w' := by
  have hk : k = 1 ∨ k = 2 ∨ k = 3 ∨ k = 4 ∨ k = 5 ∨ k = 6 ∨ k = 7 ∨ k = 8 ∨ k = 9 ∨ k = 10 := by omega
  have hB := Lib.hid (show Below w.heap.size w (w.alloc (.cells #[.int .i64 k, .int .i64 n, .slice Ak nk ck, .slice Ac nc cc] 26)) from (Below.refl _ _).alloc (Nat.le_refl _) _)
  have HT := Lib.hid (two_any n)
  clear h1 h2
  by_cases hnk : nk = 0
  · have hnk' : ((nk : Int) == 0) = true := by simpa using hnk
    subst hnk
    rcases hk with rfl | rfl | rfl | rfl | rfl | rfl | rfl | rfl | rfl | rfl
    all_goals
      go_enter Tryd.func57, Tryd.ntmps57
      go_wp2_with (first | (go_at_call 79; refine (HT.out _).mono ?_; rintro e w' ⟨rfl, rfl⟩))
    all_goals
      go_ret
      exact ⟨ret_bool (by rw [Bool.eq_iff_iff]; simp_all [cntR] <;> omega), hB.out⟩
  · have hnk' : ((nk : Int) == 0) = false := by simpa using hnk
    rcases hk with rfl | rfl | rfl | rfl | rfl | rfl | rfl | rfl | rfl | rfl
    all_goals
      go_enter Tryd.func57, Tryd.ntmps57
      go_wp2_with (first | (go_at_call 79; refine (HT.out _).mono ?_; rintro e w' ⟨rfl, rfl⟩))
    all_goals
      go_ret
      exact ⟨ret_bool (by rw [Bool.eq_iff_iff]; simp_all [cntR] <;> omega), hB.out⟩

/-! ### keys -/
theorem rising_succ {ks : List Int} {i : Nat} (h : ∀ j, j < i → ¬ keyBad 9 ks j) (hi : ¬ keyBad 9 ks i) : ∀ j, j < i + 1 → ¬ keyBad 9 ks j := fun j hj => by
  rcases Nat.lt_succ_iff_lt_or_eq.1 hj with h1 | rfl
  · exact h j h1
  · exact hi
end Go.Proofs.YtnolhcdfknjncaaDoor

/-
  The document's node: Rising.
-/
set_option linter.unusedVariables false
set_option linter.unusedSimpArgs false
namespace Go.Proofs.YtnolhcdfknjncaaDoor
open Go.RowKit

theorem intB_wrap (n : Int) : intB n = decide (wrap31 n = n) := by
  rw [Bool.eq_iff_iff]
  simp only [intB, decide_eq_true_eq]
  unfold wrap31
  constructor
  · intro h; omega
  · intro h; omega

set_option maxRecDepth 100000 in
set_option maxHeartbeats 1600000 in
theorem rising_any (A : Option Addr) (c : Nat) (ks : List Int) (B : Nat) (w : World) (h : IntsIn B w A ks) (hB : B ≤ w.heap.size) :
    Calls Tryd.prog 59 #[.slice A ks.length c] w fun e w' => e = .returned (.bool (keysB 9 ks)) ∧ Below w.heap.size w w' := by
  have hl := h.1
  go_enter Tryd.func59, Tryd.ntmps59
  go_wp2_with fail
  go_loopw [6] (fun i wr => ∃ k : Nat, k ≤ ks.length ∧ i = .int .i64 k ∧ (∀ j, j < k → ¬ keyBad 9 ks j) ∧ Below w.heap.size w wr) (fun i _ => ks.length - (intOf i).toNat)
  case atStart => exact ⟨0, by omega, rfl, fun j hj => by omega, Below.refl _ _⟩
  case round =>
    obtain ⟨i, hi, rfl, hgood, hbel⟩ := hrel
    have H1 := Lib.hid hgood
    clear hgood
    have hin : IntsIn B wr A ks := h.below (hbel.mono hB)
    have HB := Lib.hid hbel
    by_cases hlt : i < ks.length
    · obtain ⟨b, o, rfl, hb, hc⟩ := hin.at_ (by omega)
      have hck := hc i hlt
      have hcp := hc (i - 1) (by omega)
      clear hc hin h
      have hlt' : (i : Int) < (ks.length : Int) := by omega
      have hi0 : (0 : Int) ≤ (i : Int) := by omega
      have HI := Lib.hid (fun (V : World) => (rint_any (nth ks i) V).mono fun e w' h => (show e = .returned (.bool (intB (nth ks i))) ∧ w' = V from ⟨h.1, h.2.symm⟩))
      have HW := Lib.hid (intB_wrap (nth ks i))
      have HD := Lib.hid (HB.out.drew)
      by_cases hx : intB (nth ks i) = true
      · have hwx : wrap31 (nth ks i) = nth ks i := by rw [HW.out] at hx; simpa using hx
        have HWX := Lib.hid hwx
        clear hwx
        rw [hx] at HI
        by_cases h0 : 0 < i
        · have h0' : (0 : Int) < (i : Int) := by omega
          have h1 : IntKind.i64.wrap ((i : Int) - 1) = (i : Int) - 1 := by rw [IntKind.wrap_i64]; omega
          have h2 : ((i : Int) - 1).toNat = i - 1 := by omega
          have h3 : (1 : Int) ≤ (i : Int) := by omega
          have h4 : (i : Int) - 1 < (ks.length : Int) := by omega
          by_cases hle : nth ks i ≤ nth ks (i - 1)
          · have HF := Lib.hid (keysB_false (k := 9) hlt (.inr ⟨rfl, .inr ⟨h0, hle⟩⟩))
            clear hbel
            generalize nth ks i = x at *
            generalize nth ks (i - 1) = y at *
            go_wp2_with fail
            go_quiet ((go_at_call 78; exact Calls.quiet_of_same (HI.out _)))
            all_goals go_wp2_with fail
            all_goals go_ret
            all_goals exact ⟨ret_bool HF.out.symm, below_drewN HB.out _⟩
          · have HOK := Lib.hid (keyOk9 HWX.out (fun h => hle h.2))
            clear hbel
            generalize nth ks i = x at *
            generalize nth ks (i - 1) = y at *
            go_wp2_with fail
            go_quiet ((go_at_call 78; exact Calls.quiet_of_same (HI.out _)))
            all_goals go_wp2_with fail
            all_goals go_roundw
            all_goals first
              | exact ⟨i + 1, by omega, by go_num, keys_succ H1.out HOK.out, below_drewN HB.out _⟩
              | (simp [intOf]; omega)
        · have HOK := Lib.hid (keyOk9 HWX.out (fun h => h0 h.1))
          obtain rfl : i = 0 := by omega
          rw [Nat.add_zero] at hck
          clear hbel hcp
          generalize nth ks 0 = x at *
          go_wp2_with fail
          go_quiet ((go_at_call 78; exact Calls.quiet_of_same (HI.out _)))
          all_goals go_wp2_with fail
          all_goals go_roundw
          all_goals first
            | exact ⟨0 + 1, by omega, by go_num, keys_succ H1.out HOK.out, below_drewN HB.out _⟩
            | (simp [intOf]; omega)
      · have HF := Lib.hid (keysB_false (k := 9) hlt (.inr ⟨rfl, .inl (by rw [HW.out] at hx; simpa using hx)⟩))
        have hxf : intB (nth ks i) = false := by simpa using hx
        rw [hxf] at HI
        clear hbel hx hxf hcp
        generalize nth ks i = x at *
        go_wp2_with fail
        go_quiet ((go_at_call 78; exact Calls.quiet_of_same (HI.out _)))
        all_goals go_wp2_with fail
        all_goals go_ret
        all_goals exact ⟨ret_bool HF.out.symm, below_drewN HB.out _⟩
    · have hall := Lib.hid (keysB_true (k := 9) (ks := ks) (fun j hj => H1.out j (by omega)))
      go_wp2
      go_ret
      exact ⟨ret_bool hall.out.symm, HB.out⟩
end Go.Proofs.YtnolhcdfknjncaaDoor

/-
  The document's node: Group.
-/
set_option linter.unusedVariables false
set_option linter.unusedSimpArgs false
namespace Go.Proofs.YtnolhcdfknjncaaDoor
open Go.RowKit

theorem evensL_mem (l : List Int) (x : Int) : x ∈ evensL l ↔ ∃ k, 2 * k < l.length ∧ nth l (2 * k) = x := by
  induction l using evensL.induct with
  | case1 => simp [evensL]
  | case2 a =>
    simp only [evensL, List.mem_singleton, List.length_singleton]
    constructor
    · rintro rfl; exact ⟨0, by omega, by simp [nth]⟩
    · rintro ⟨k, hk, h⟩
      obtain rfl : k = 0 := by omega
      simpa [nth] using h.symm
  | case3 a b l ih =>
    simp only [evensL, List.mem_cons, ih, List.length_cons]
    constructor
    · rintro (rfl | ⟨k, hk, h⟩)
      · exact ⟨0, by omega, by simp [nth]⟩
      · refine ⟨k + 1, by omega, ?_⟩
        rw [show 2 * (k + 1) = 2 * k + 1 + 1 from by omega]
        simpa [nth] using h
    · rintro ⟨k, hk, h⟩
      cases k with
      | zero => left; simpa [nth] using h.symm
      | succ k =>
        right
        refine ⟨k, by omega, ?_⟩
        rw [show 2 * (k + 1) = 2 * k + 1 + 1 from by omega] at h
        simpa [nth] using h
theorem even_in {ks : List Int} {i k : Nat} (hk : k < i) (hi : i < ks.length) (h2 : k % 2 = 0) (h : nth ks i = nth ks k) : nth ks i ∈ evensL (ks.take i) := by
  rw [evensL_mem]
  refine ⟨k / 2, by simp; omega, ?_⟩
  rw [show 2 * (k / 2) = k from by omega, nth_take _ hk, h]
theorem even_not {ks : List Int} {i : Nat} (hi : i < ks.length) (h : ∀ k, k < i → ¬ (i % 2 = 0 ∧ k % 2 = 0 ∧ nth ks i = nth ks k)) : ¬ (i % 2 = 0 ∧ nth ks i ∈ evensL (ks.take i)) := by
  rintro ⟨h1, h2⟩
  rw [evensL_mem] at h2
  obtain ⟨k, hk, h3⟩ := h2
  have hk' : 2 * k < i := by simp at hk; omega
  rw [nth_take _ hk'] at h3
  exact h (2 * k) hk' ⟨h1, by omega, h3.symm⟩

set_option maxRecDepth 100000 in
set_option maxHeartbeats 1600000 in
theorem group_any (A : Option Addr) (c : Nat) (ks : List Int) (B : Nat) (w : World) (h : IntsIn B w A ks) (hB : B ≤ w.heap.size) :
    Calls Tryd.prog 58 #[.slice A ks.length c] w fun e w' => e = .returned (.bool (keysB 6 ks)) ∧ Below w.heap.size w w' := by
  have hl := h.1
  go_enter Tryd.func58, Tryd.ntmps58
  go_wp2_with fail
  go_loopw [7] (fun i wr => ∃ k : Nat, k ≤ ks.length ∧ i = .int .i64 k ∧ Hid (∀ j, j < k → ¬ keyBad 6 ks j) ∧ Hid (Below w.heap.size w wr)) (fun i _ => ks.length - (intOf i).toNat)
  case atStart => exact ⟨0, by omega, rfl, Lib.hid (fun j hj => by omega), Lib.hid (Below.refl _ _)⟩
  case round =>
    obtain ⟨i, hi, rfl, H1, HB⟩ := hrel
    have hin : IntsIn B wr A ks := h.below (HB.out.mono hB)
    by_cases hlt : i < ks.length
    · obtain ⟨b, o, rfl, hb, hc⟩ := hin.at_ (by omega)
      have hck := hc i hlt
      clear hc hin
      have hlt' : (i : Int) < (ks.length : Int) := by omega
      have hi0 : (0 : Int) ≤ (i : Int) := by omega
      have HV := Lib.hid (variable_any (nth ks i))
      by_cases hx : varB (nth ks i) = true
      · rw [hx] at HV
        have HX := Lib.hid (show 0 ≤ nth ks i ∧ nth ks i ≤ 65535 from by simp only [varB, decide_eq_true_eq] at hx; omega)
        clear hx
        go_wp2_with ((go_at_call 77; refine (HV.out _).mono ?_; rintro e w' ⟨rfl, rfl⟩))
        go_loopw [4] (fun k wr2 => ∃ m : Nat, m ≤ i ∧ k = .int .i64 m ∧ Hid (∀ j, j < m → ¬ (i % 2 = 0 ∧ j % 2 = 0 ∧ nth ks i = nth ks j)) ∧ Hid (Below w.heap.size w wr2)) (fun k _ => i - (intOf k).toNat)
        case atStart => exact ⟨0, by omega, rfl, Lib.hid (fun j hj => by omega), HB⟩
        case round =>
          obtain ⟨m, hm, rfl, H2, HB2⟩ := hrel
          by_cases hmi : m < i
          · have hmi' : (m : Int) < (i : Int) := by omega
            have hm0 : (0 : Int) ≤ (m : Int) := by omega
            have hml : (m : Int) < (ks.length : Int) := by omega
            have hcm : wr.cell? ⟨b, o + m, none⟩ = some (.int .i64 (nth ks m)) := by
              obtain ⟨b', o', hA, hb', hc'⟩ := (h.below (HB2.out.mono hB)).at_ (by omega)
              obtain ⟨rfl, rfl⟩ : b = b' ∧ o = o' := by simpa using hA
              exact hc' m (by omega)
            have hci : wr.cell? ⟨b, o + i, none⟩ = some (.int .i64 (nth ks i)) := by
              obtain ⟨b', o', hA, hb', hc'⟩ := (h.below (HB2.out.mono hB)).at_ (by omega)
              obtain ⟨rfl, rfl⟩ : b = b' ∧ o = o' := by simpa using hA
              exact hc' i (by omega)
            have ht : ∀ x : Nat, Int.tmod (x : Int) 2 = ((x % 2 : Nat) : Int) := fun x => by rw [Int.tmod_eq_emod_of_nonneg (by omega)]; omega
            have hti := ht i
            have htm := ht m
            have HGO := Lib.hid (fun (hne : ¬ (i % 2 = 0 ∧ m % 2 = 0 ∧ nth ks i = nth ks m)) => (show ∀ j, j < m + 1 → ¬ (i % 2 = 0 ∧ j % 2 = 0 ∧ nth ks i = nth ks j) from fun j hj => by
              rcases Nat.lt_or_ge j m with h' | h'
              · exact H2.out j h'
              · obtain rfl : j = m := by omega
                exact hne))
            clear ht
            rcases Nat.mod_two_eq_zero_or_one i with hpi | hpi
            · rw [hpi] at hti
              rcases Nat.mod_two_eq_zero_or_one m with hpm | hpm
              · rw [hpm] at htm
                by_cases hxy : nth ks i = nth ks m
                · have HF := Lib.hid (keysB_false (k := 6) hlt (.inl ⟨rfl, .inr ⟨hpi, even_in hmi hlt hpm hxy⟩⟩))
                  rw [← hxy] at hcm
                  clear hxy
                  generalize nth ks i = x at *
                  go_wp2_with fail
                  go_quiet (fail)
                  go_wp2_with fail
                  go_ret
                  exact ⟨ret_bool HF.out.symm, below_drewN HB2.out _⟩
                · have hxb : (nth ks i == nth ks m) = false := by simpa using hxy
                  have HN := Lib.hid (HGO.out (fun h => hxy h.2.2))
                  clear hxy
                  go_wp2_with fail
                  go_quiet (fail)
                  go_wp2_with fail
                  go_roundw
                  case rel => exact ⟨m + 1, by omega, by go_num, HN, Lib.hid (below_drewN HB2.out _)⟩
                  case measure => simp [intOf]; omega
              · rw [hpm] at htm
                have HN := Lib.hid (HGO.out (fun h => by omega))
                go_wp2_with fail
                go_quiet (fail)
                go_wp2_with fail
                go_roundw
                case rel => exact ⟨m + 1, by omega, by go_num, HN, Lib.hid (below_drewN HB2.out _)⟩
                case measure => simp [intOf]; omega
            · rw [hpi] at hti
              have HN := Lib.hid (HGO.out (fun h => by omega))
              go_wp2_with fail
              go_quiet (fail)
              go_wp2_with fail
              go_roundw
              case rel => exact ⟨m + 1, by omega, by go_num, HN, Lib.hid (below_drewN HB2.out _)⟩
              case measure => simp [intOf]; omega
          · have hmi' : ¬ (m : Int) < (i : Int) := by omega
            obtain rfl : m = i := by omega
            have HOK := Lib.hid (show ¬ keyBad 6 ks m from keyOk6 HX.out (even_not hlt H2.out))
            go_wp2_with fail
            go_roundw
            case rel => exact ⟨m + 1, by omega, by go_num, Lib.hid (keys_succ H1.out HOK.out), HB2⟩
            case measure => simp [intOf]; omega
      · have HF := Lib.hid (keysB_false (k := 6) hlt (.inl ⟨rfl, .inl (fun hh => hx (by simp only [varB, decide_eq_true_eq]; omega))⟩))
        have hxf : varB (nth ks i) = false := by simpa using hx
        rw [hxf] at HV
        clear hx hxf
        go_wp2_with ((go_at_call 77; refine (HV.out _).mono ?_; rintro e w' ⟨rfl, rfl⟩))
        go_ret
        exact ⟨ret_bool HF.out.symm, HB.out⟩
    · have hall := Lib.hid (keysB_true (k := 6) (ks := ks) (fun j hj => H1.out j (by omega)))
      go_wp2
      go_ret
      exact ⟨ret_bool hall.out.symm, HB.out⟩
end Go.Proofs.YtnolhcdfknjncaaDoor

/-
  The document's node.
-/
set_option linter.unusedVariables false
set_option linter.unusedSimpArgs false
namespace Go.Proofs.YtnolhcdfknjncaaDoor
open Go.RowKit

/-- what is wrong with a node, as the document has it -/
def nodeR (k n : Int) (ks : List Int) (nc : Nat) : Int :=
  if k < 1 ∨ 10 < k then 29 else if numB k n = false then 2 else if k = 10 ∧ (n < 1 ∨ 16 < n) then 28 else if cntR k n ks.length nc = false then 19
  else if (k = 6 ∨ k = 9) ∧ keysB k ks = false then 2 else 0

set_option maxRecDepth 100000 in
set_option maxHeartbeats 6400000 in
theorem rnode_any (k n : Int) (Ak Ac : Option Addr) (ck nc cc : Nat) (ks : List Int) (B : Nat) (w : World) (h : IntsIn B w Ak ks) (hB : B ≤ w.heap.size) (hn2 : nc ≤ 9000000000000000000) :
    Calls Tryd.prog 32 #[.agg #[.int .i64 k, .int .i64 n, .slice Ak ks.length ck, .slice Ac nc cc]] w fun e w' => e = .returned (.int .i64 (nodeR k n ks nc)) ∧ Below w.heap.size w w' := by
  obtain ⟨w0, hw0⟩ : ∃ w0, (w.alloc (Obj.cells #[Value.int IntKind.i64 k, Value.int IntKind.i64 n, Value.slice Ak ks.length ck, .slice Ac nc cc] 26)) = w0 := ⟨_, rfl⟩
  have hb0 : Below w.heap.size w w0 := by rw [← hw0]; exact (Below.refl _ _).alloc (Nat.le_refl _) _
  have hs0 : w.heap.size < w0.heap.size := by rw [← hw0]; simp
  have h00 : w0.heap[w.heap.size]? = some (.cells #[.int .i64 k, .int .i64 n, .slice Ak ks.length ck, .slice Ac nc cc] 26 (0, 0)) := by rw [← hw0]; exact World.alloc_heap_new w _
  have HBOX := Lib.hid (fun (V : World) (hV : Below w0.heap.size w0 V) => (show V.cell? ⟨w.heap.size, 0, none⟩ = some (.int .i64 k) ∧ V.cell? ⟨w.heap.size, 1, none⟩ = some (.int .i64 n) ∧ V.cell? ⟨w.heap.size, 2, none⟩ = some (.slice Ak ks.length ck) ∧ V.cell? ⟨w.heap.size, 3, none⟩ = some (.slice Ac nc cc) from by
    have h := (hV.block w.heap.size hs0).trans h00
    simp [World.cell?, h]))
  have HFIN := Lib.hid (fun (V : World) (hV : Below w0.heap.size w0 V) => (show Below w.heap.size w V from hb0.trans (hV.mono (Nat.le_of_lt hs0))))
  have HIN := Lib.hid (fun (V : World) (hV : Below w0.heap.size w0 V) => (show IntsIn B V Ak ks ∧ B ≤ V.heap.size from ⟨(h.below (hb0.mono hB)).below (hV.mono (by omega)), by have := hV.size; omega⟩))
  have hkl := h.1
  obtain ⟨z0, z1, z2, z3⟩ := HBOX.out w0 (Below.refl _ _)
  have HR := Lib.hid (Below.refl w0.heap.size w0)
  clear hb0 hs0 h00 h
  by_cases hk1 : k < 1
  · have HE := Lib.hid (show nodeR k n ks nc = 29 from by simp [nodeR, hk1])
    go_enter Tryd.func32, Tryd.ntmps32
    go_wp2_with fail
    go_ret
    exact ⟨ret_int HE.out.symm, HFIN.out _ HR.out⟩
  by_cases hk2 : 10 < k
  · have HE := Lib.hid (show nodeR k n ks nc = 29 from by simp [nodeR, hk2])
    go_enter Tryd.func32, Tryd.ntmps32
    go_wp2_with fail
    go_ret
    exact ⟨ret_int HE.out.symm, HFIN.out _ HR.out⟩
  have HN := Lib.hid (fun (V : World) => rnumber_any k n (.slice Ak ks.length ck) (.slice Ac nc cc) V)
  have HC := Lib.hid (fun (V : World) => rcount_any k n Ak Ac ks.length ck nc cc V (by omega) hn2 (by omega) (by omega))
  have HG := Lib.hid (fun (V : World) (hV : Below w0.heap.size w0 V) => group_any Ak ck ks B V (HIN.out V hV).1 (HIN.out V hV).2)
  have HS := Lib.hid (fun (V : World) (hV : Below w0.heap.size w0 V) => rising_any Ak ck ks B V (HIN.out V hV).1 (HIN.out V hV).2)
  cases hnum : numB k n with
  | false =>
    have HE := Lib.hid (show nodeR k n ks nc = 2 from by simp [nodeR, hk1, hk2, hnum])
    rw [hnum] at HN
    clear hnum
    have hk1' : 1 ≤ k := by omega
    have hk2' : k ≤ 10 := by omega
    generalize ks.length = kl at *
    go_enter Tryd.func32, Tryd.ntmps32
    go_wp2_with (go_at_call 56; refine (HN.out _).mono ?_; rintro e w' ⟨rfl, hb1⟩)
    go_ret
    exact ⟨ret_int HE.out.symm, HFIN.out _ hb1⟩
  | true =>
    rw [hnum] at HN
    by_cases h28 : k = 10 ∧ (n < 1 ∨ 16 < n)
    · have HE := Lib.hid (show nodeR k n ks nc = 28 from by unfold nodeR; rw [if_neg (by omega), if_neg (by simp [hnum]), if_pos h28])
      obtain ⟨rfl, hn⟩ := h28
      clear hnum
      generalize ks.length = kl at *
      by_cases hn1 : n < 1
      · go_enter Tryd.func32, Tryd.ntmps32
        go_wp2_with (go_at_call 56; refine (HN.out _).mono ?_; rintro e w' ⟨rfl, hb1⟩; obtain ⟨y0, y1, y2, y3⟩ := HBOX.out w' hb1)
        go_ret
        exact ⟨ret_int HE.out.symm, HFIN.out _ hb1⟩
      · have hn2 : 16 < n := by omega
        go_enter Tryd.func32, Tryd.ntmps32
        go_wp2_with (go_at_call 56; refine (HN.out _).mono ?_; rintro e w' ⟨rfl, hb1⟩; obtain ⟨y0, y1, y2, y3⟩ := HBOX.out w' hb1)
        go_ret
        exact ⟨ret_int HE.out.symm, HFIN.out _ hb1⟩
    · have hp : ∃ p : Bool, cntR k n ks.length nc = p := ⟨_, rfl⟩
      obtain ⟨p, hcnt⟩ := hp
      have hq6 : ∃ q : Bool, keysB 6 ks = q := ⟨_, rfl⟩
      obtain ⟨q6, hq6⟩ := hq6
      have hq9 : ∃ q : Bool, keysB 9 ks = q := ⟨_, rfl⟩
      obtain ⟨q9, hq9⟩ := hq9
      have HE := Lib.hid (show nodeR k n ks nc = if p = false then 19 else if (k = 6 ∧ q6 = false) ∨ (k = 9 ∧ q9 = false) then 2 else 0 from by
        have hkk : ((k = 6 ∨ k = 9) ∧ keysB k ks = false) ↔ ((k = 6 ∧ q6 = false) ∨ (k = 9 ∧ q9 = false)) := by
          constructor
          · rintro ⟨rfl | rfl, h⟩
            · exact .inl ⟨rfl, hq6 ▸ h⟩
            · exact .inr ⟨rfl, hq9 ▸ h⟩
          · rintro (⟨rfl, h⟩ | ⟨rfl, h⟩)
            · exact ⟨.inl rfl, hq6.trans h⟩
            · exact ⟨.inr rfl, hq9.trans h⟩
        simp only [nodeR, hnum, hcnt, if_neg h28, if_neg (show ¬ (k < 1 ∨ 10 < k) from by omega), hkk]
        simp)
      rw [hcnt] at HC
      rw [hq6] at HG
      rw [hq9] at HS
      have hn16 : k = 10 → 1 ≤ n ∧ n ≤ 16 := by omega
      have hk : k = 1 ∨ k = 2 ∨ k = 3 ∨ k = 4 ∨ k = 5 ∨ k = 6 ∨ k = 7 ∨ k = 8 ∨ k = 9 ∨ k = 10 := by omega
      clear hnum hcnt hq6 hq9 h28 hk1 hk2
      generalize nodeR k n ks nc = R at *
      generalize ks.length = kl at *
      rcases hk with rfl | rfl | rfl | rfl | rfl | rfl | rfl | rfl | rfl | rfl
      all_goals
        first
          | (obtain ⟨hn16, hn17⟩ := hn16 rfl)
          | clear hn16
        cases p
        all_goals
          go_enter Tryd.func32, Tryd.ntmps32
          go_wp2_with (first
            | (go_at_call 56; refine (HN.out _).mono ?_; rintro e w1 ⟨rfl, hb1⟩; obtain ⟨y0, y1, y2, y3⟩ := HBOX.out w1 hb1)
            | (go_at_call 57; refine (HC.out _).mono ?_; rintro e w2 ⟨rfl, hb2⟩; have hb3 := hb1.trans (hb2.mono hb1.size); obtain ⟨x0, x1, x2, x3⟩ := HBOX.out w2 hb3)
            | (go_at_call 58; refine (HG.out _ hb3).mono ?_; rintro e w4 ⟨rfl, hb4⟩; have hb5 := hb3.trans (hb4.mono hb3.size); obtain ⟨u0, u1, u2, u3⟩ := HBOX.out w4 hb5)
            | (go_at_call 59; refine (HS.out _ hb3).mono ?_; rintro e w4 ⟨rfl, hb4⟩; have hb5 := hb3.trans (hb4.mono hb3.size); obtain ⟨u0, u1, u2, u3⟩ := HBOX.out w4 hb5))
      all_goals
        go_ret
        refine ⟨ret_int (HE.out.trans ?_).symm, ?_⟩
        · simp_all
        · first
            | exact HFIN.out _ hb5
            | exact HFIN.out _ hb3
            | exact HFIN.out _ hb1
end Go.Proofs.YtnolhcdfknjncaaDoor

/-
  The document's Right.
-/
set_option linter.unusedVariables false
set_option linter.unusedSimpArgs false
namespace Go.Proofs.YtnolhcdfknjncaaDoor
open Go.RowKit

def itemE (i : Nat) (x : Int × Core) : Int := if i = 65536 then 4 else if 400 < x.1 then 7 else nodeR x.2.k x.2.n x.2.ks x.2.cs.length
def firstR (i : Nat) : List (Int × Core) → Int
  | [] => 0
  | x :: l => if itemE i x ≠ 0 then itemE i x else firstR (i + 1) l
def rightR (t : Core) : Int := firstR 0 (itemsF 0 1 t)
theorem firstR_step {l : List (Int × Core)} {j : Nat} (hj : j < l.length) (h : itemE j l[j] = 0) : firstR j (l.drop j) = firstR (j + 1) (l.drop (j + 1)) := by
  rw [List.drop_eq_getElem_cons hj, firstR, if_neg (by simp [h])]
theorem firstR_stop {l : List (Int × Core)} {j : Nat} (hj : j < l.length) (h : itemE j l[j] ≠ 0) : firstR j (l.drop j) = itemE j l[j] := by
  rw [List.drop_eq_getElem_cons hj, firstR, if_pos h]
theorem below_of_grown {w W W' : World} (h : Below w.heap.size w W) (hg : W.grownBy W' none) : Below w.heap.size w W' :=
  ⟨hg.os.trans h.os, hg.tape.trans h.tape, hg.output.trans h.output, Nat.le_trans h.size hg.size, fun k hk => (hg.block k (Nat.lt_of_lt_of_le hk h.size) (by simp)).trans (h.block k hk)⟩

theorem cellsI_len {B : Nat} {w0 : World} (q : List (ItemX B w0)) : (cellsI q).length = 5 * q.length := by
  induction q with
  | nil => rfl
  | cons x q ih => simp only [cellsI, List.flatMap_cons, List.length_append, List.length_cons, List.length_nil] at ih ⊢; omega
theorem cellsI_get {B : Nat} {w0 : World} : ∀ (q : List (ItemX B w0)) (j : Nat) (hj : j < q.length), (cellsI q)[j * 5]? = some q[j].c0 ∧ (cellsI q)[j * 5 + 1]? = some q[j].c1 ∧ (cellsI q)[j * 5 + 2]? = some q[j].c2 ∧ (cellsI q)[j * 5 + 3]? = some q[j].c3 ∧ (cellsI q)[j * 5 + 4]? = some (.int .i64 q[j].d)
  | [], j, hj => by simp at hj
  | x :: q, 0, _ => by simp [cellsI]
  | x :: q, j + 1, hj => by
    have ih := cellsI_get q j (by simpa using hj)
    have e : ∀ i, (j + 1) * 5 + i = j * 5 + i + 1 + 1 + 1 + 1 + 1 := fun i => by omega
    have e0 : (j + 1) * 5 = j * 5 + 1 + 1 + 1 + 1 + 1 := by omega
    have hc : cellsI (x :: q) = x.c0 :: x.c1 :: x.c2 :: x.c3 :: .int .i64 x.d :: cellsI q := by simp [cellsI]
    rw [hc, e 1, e 2, e 3, e 4, e0]
    simpa using ih

set_option maxRecDepth 100000 in
set_option maxHeartbeats 1600000 in
theorem ritems_any {B : Nat} {t : Core} {v : Array Value} (w : World) (hin : CoreIn B w t v) (hB : B ≤ w.heap.size) :
    Calls Tryd.prog 31 #[.agg v] w fun e w' => ∃ A c, ∃ q : List (ItemX B w), e = .returned (.slice A q.length c) ∧ projI q = itemsF 0 1 t ∧ w'.ownsRow w.heap.size 71 5 (.slice A q.length c) q.length (cellsI q) ∧ Below w.heap.size w w' := by
  obtain ⟨k0, n0, A2, n2, d2, A3, n3, d3, rfl⟩ := hin.shape
  have hb0 : Below w.heap.size w (w.alloc (.cells #[.int .i64 k0, .int .i64 n0, .slice A2 n2 d2, .slice A3 n3 d3] 26)) := (Below.refl _ _).alloc (Nat.le_refl _) _
  have HC := Lib.hid (items_any (base := w.heap.size) hin _ 1 [] (.slice none 0 0) (Stay.of_below (hb0.mono hB)) hB hb0.size (by omega) ⟨rfl, .inl ⟨rfl, rfl⟩⟩)
  have HB := Lib.hid hb0
  clear hin hb0
  go_enter Tryd.func31, Tryd.ntmps31
  go_wp2_with (go_at_call 55; refine HC.out.mono ?_; rintro e w' ⟨u, q, rfl, hq, hr⟩; obtain ⟨A, c, rfl⟩ := owns_shape hr.row)
  go_ret
  exact ⟨A, c, q, rfl, hq, hr.row, below_of_grown HB.out hr.grow⟩

set_option maxRecDepth 100000 in
set_option maxHeartbeats 1600000 in
theorem rright_any {B : Nat} {t : Core} {v : Array Value} (w : World) (hin : CoreIn B w t v) (hB : B ≤ w.heap.size) :
    Calls Tryd.prog 15 #[.agg v] w fun e w' => e = .returned (.int .i64 (rightR t)) ∧ Below w.heap.size w w' := by
  obtain ⟨k0, n0, A2, n2, d2, A3, n3, d3, rfl⟩ := hin.shape
  have hb0 : Below w.heap.size w (w.alloc (.cells #[.int .i64 k0, .int .i64 n0, .slice A2 n2 d2, .slice A3 n3 d3] 26)) := (Below.refl _ _).alloc (Nat.le_refl _) _
  have hin0 : CoreIn B (w.alloc (.cells #[.int .i64 k0, .int .i64 n0, .slice A2 n2 d2, .slice A3 n3 d3] 26)) t #[.int .i64 k0, .int .i64 n0, .slice A2 n2 d2, .slice A3 n3 d3] := hin.kept (hb0.mono hB)
  have HC := Lib.hid (ritems_any _ hin0 (Nat.le_trans hB hb0.size))
  have HB := Lib.hid hb0
  have HBS := Lib.hid (Nat.le_trans hB hb0.size)
  clear hin hb0 hin0
  go_enter Tryd.func15, Tryd.ntmps15
  go_wp2_with (go_at_call 31; refine HC.out.mono ?_; rintro e w1 ⟨A, c, q, rfl, hq, hrow, hb1⟩; have HQ := Lib.hid hq; have HROW := Lib.hid hrow; have HB1 := Lib.hid hb1; clear hq hrow hb1; obtain ⟨L, hL⟩ : ∃ L, q.length = L := ⟨_, rfl⟩; have HL := Lib.hid hL; rw [hL]; clear hL)
  go_loopw [10] (fun i wr => ∃ j : Nat, j ≤ L ∧ j ≤ 65536 ∧ i = .int .i64 (j : Int) ∧ Hid (Below w1.heap.size w1 wr) ∧ Hid (rightR t = firstR j ((projI q).drop j))) (fun i _ => L + 1 - (intOf i).toNat)
  case atStart => exact ⟨0, by omega, by omega, rfl, Lib.hid (Below.refl _ _), Lib.hid (by rw [HQ.out]; rfl)⟩
  case round =>
    obtain ⟨j, hj, hj6, rfl, HBR, HE⟩ := hrel
    have hbase : w1.heap.size ≤ wr.heap.size := HBR.out.size
    by_cases hlt : j < L
    · have hj0 : (0 : Int) ≤ (j : Int) := by omega
      have hjl : (j : Int) < (L : Int) := by omega
      have hjq : j < q.length := by rw [HL.out]; exact hlt
      have hjp : j < (projI q).length := by simpa [projI] using hjq
      have hgp : (projI q)[j] = (q[j].d, q[j].t) := by simp [projI]
      by_cases h65 : j = 65536
      · have HF := Lib.hid (show rightR t = 4 from HE.out.trans ((firstR_stop hjp (by simp [itemE, h65])).trans (by simp [itemE, h65])))
        have h65' : ((j : Int) == 65536) = true := by simp [h65]
        go_wp2_with fail
        go_ret
        exact ⟨ret_int HF.out.symm, HB.out.trans ((HB1.out.trans (HBR.out.mono HB1.out.size)).mono HB.out.size)⟩
      · have h65' : ((j : Int) == 65536) = false := by simp; omega
        obtain ⟨g, cap, cur, hA, hge, hh, -⟩ : ∃ g cap cur, (Value.slice A q.length c) = .slice (some ⟨g, 0, none⟩) q.length cap ∧ _ ≤ g ∧ w1.heap[g]? = some (.cells cur 71 (0, 0)) ∧ True := by
          rcases HROW.out.2 with ⟨h0, h1⟩ | ⟨g, cap, cur, h1, h2, h3, -⟩
          · omega
          · exact ⟨g, cap, cur, h1, h2, h3, trivial⟩
        have hgl : g < w1.heap.size := (Array.getElem?_eq_some_iff.1 hh).1
        have hcell : ∀ i x, (cellsI q)[j * 5 + i]? = some x → wr.cell? ⟨g, j * 5 + i, none⟩ = some x := fun i x hx => by
          have h1 := World.ownsRow.cells HROW.out (g := g) (by rw [hA]; rfl) (j * 5 + i) x hx
          have ha : (⟨g, 0, none⟩ : Addr).add (j * 5 + i) = ⟨g, j * 5 + i, none⟩ := by unfold Addr.add; split <;> simp_all
          rw [ha] at h1
          exact (HBR.out.cell (p := ⟨g, j * 5 + i, none⟩) hgl).trans h1
        obtain ⟨g0, g1, g2, g3, g4⟩ := cellsI_get q j hjq
        have r0 := hcell 0 _ g0
        have r1 := hcell 1 _ g1
        have r2 := hcell 2 _ g2
        have r3 := hcell 3 _ g3
        have r4 := hcell 4 _ g4
        obtain ⟨k', n', ks', cs', Ak', ck', Ac', cc', b', o', G0', G1', G2', G3', ht', hv', hks', hck', hcc', hkids'⟩ := q[j].hin.open_
        simp only [Array.mk.injEq, List.cons.injEq, and_true] at hv'
        obtain ⟨s0, s1, s2, s3⟩ := hv'
        rw [s0] at r0
        rw [s1] at r1
        rw [s2] at r2
        rw [s3] at r3
        rw [Nat.add_zero] at r0
        obtain ⟨d, hd⟩ : ∃ d, q[j].d = d := ⟨_, rfl⟩
        rw [hd] at r4
        have HN := Lib.hid (rnode_any k' n' Ak' Ac' ck' cs'.length cc' ks' B wr ((hks'.below (HB1.out.mono HBS.out)).below (HBR.out.mono (Nat.le_trans HBS.out HB1.out.size))) (Nat.le_trans HBS.out (Nat.le_trans HB1.out.size hbase)) (by have := hkids'.hcl; omega))
        have hit : itemE j (projI q)[j] = if 400 < d then 7 else nodeR k' n' ks' cs'.length := by
          rw [hgp, ht', hd]
          simp only [itemE, if_neg h65]
          rfl
        obtain ⟨e0, he0⟩ : ∃ e0, nodeR k' n' ks' cs'.length = e0 := ⟨_, rfl⟩
        rw [he0] at HN hit
        have HIT := Lib.hid hit
        have hcl := hkids'.hcl
        have hkl := hks'.1
        cases hA
        clear hit he0 hd s0 s1 s2 s3 hks' hkids' g0 g1 g2 g3 g4 hcell hgp ht' hck' hcc'
        by_cases hd4 : 400 < d
        · have HF := Lib.hid (show rightR t = 7 from HE.out.trans ((firstR_stop hjp (by rw [HIT.out, if_pos hd4]; simp)).trans (by rw [HIT.out, if_pos hd4])))
          rw [HL.out] at *
          go_wp2_with fail
          go_ret
          exact ⟨ret_int HF.out.symm, HB.out.trans ((HB1.out.trans (HBR.out.mono HB1.out.size)).mono HB.out.size)⟩
        · by_cases hz : e0 = 0
          · subst hz
            have HG := Lib.hid (HE.out.trans (firstR_step hjp (by rw [HIT.out, if_neg hd4])))
            go_wp2_with (go_at_call 32; refine HN.out.mono ?_; rintro e w' ⟨rfl, hb2⟩)
            go_roundw
            case rel => exact ⟨j + 1, by omega, by omega, by go_num, Lib.hid (HBR.out.trans (hb2.mono HBR.out.size)), HG⟩
            case measure => simp [intOf]; omega
          · have HF := Lib.hid (show rightR t = e0 from HE.out.trans ((firstR_stop hjp (by rw [HIT.out, if_neg hd4]; exact hz)).trans (by rw [HIT.out, if_neg hd4])))
            have hz' : (e0 == 0) = false := by simpa using hz
            have hz'' : (e0 != 0) = true := by simpa using hz
            go_wp2_with (go_at_call 32; refine HN.out.mono ?_; rintro e w' ⟨rfl, hb2⟩)
            go_ret
            exact ⟨ret_int HF.out.symm, HB.out.trans ((HB1.out.trans ((HBR.out.trans (hb2.mono HBR.out.size)).mono HB1.out.size)).mono HB.out.size)⟩
    · have hjl : ¬ (j : Int) < (L : Int) := by omega
      have HF := Lib.hid (show rightR t = 0 from HE.out.trans (by rw [List.drop_eq_nil_iff.2 (by simp [projI]; rw [HL.out]; omega)]; rfl))
      go_wp2_with fail
      go_ret
      exact ⟨ret_int HF.out.symm, HB.out.trans ((HB1.out.trans (HBR.out.mono HB1.out.size)).mono HB.out.size)⟩
end Go.Proofs.YtnolhcdfknjncaaDoor

/-
  The document's Right and the program's: they call the same terms right.
-/
set_option linter.unusedVariables false
set_option linter.unusedSimpArgs false
namespace Go.Proofs.YtnolhcdfknjncaaDoor

theorem keysB_other {k : Int} (ks : List Int) (h6 : k ≠ 6) (h9 : k ≠ 9) : keysB k ks = true :=
  keysB_true (fun j hj => keyOkN h6 h9)
theorem node_iff (k n : Int) (ks : List Int) (nc : Nat) : nodeR k n ks nc = 0 ↔ ((1 ≤ k ∧ k ≤ 10) ∧ numE k n = 0 ∧ cntB k n ks.length nc = true ∧ keysB k ks = true) := by
  by_cases hk : 1 ≤ k ∧ k ≤ 10
  · have hkk : k = 1 ∨ k = 2 ∨ k = 3 ∨ k = 4 ∨ k = 5 ∨ k = 6 ∨ k = 7 ∨ k = 8 ∨ k = 9 ∨ k = 10 := by omega
    have hn : (numB k n = true ∧ ¬ (k = 10 ∧ (n < 1 ∨ 16 < n))) ↔ numE k n = 0 := by
      rcases hkk with rfl | rfl | rfl | rfl | rfl | rfl | rfl | rfl | rfl | rfl
      all_goals first
        | (simp [numB, numE, varB]; omega)
        | (simp [numB, numE, intB_wrap]; done)
    have hc : (numB k n = true ∧ ¬ (k = 10 ∧ (n < 1 ∨ 16 < n))) → (cntR k n ks.length nc = cntB k n ks.length nc) := by
      intro h
      rw [Bool.eq_iff_iff]
      rcases hkk with rfl | rfl | rfl | rfl | rfl | rfl | rfl | rfl | rfl | rfl
      all_goals simp [cntR, cntB, kidsL, twoB, two] at h ⊢
      all_goals try omega
      · intro _
        have hh : ((1 ≤ n ∧ n ≤ 9) ∨ n = 12 ∨ n = 16) ↔ (n ≤ 9 ∨ n = 12 ∨ n = 16) := by omega
        simp only [hh]
    have hkb : (¬ ((k = 6 ∨ k = 9) ∧ keysB k ks = false)) ↔ keysB k ks = true := by
      constructor
      · intro h
        by_cases h6 : k = 6 ∨ k = 9
        · cases hq : keysB k ks with
          | true => rfl
          | false => exact absurd ⟨h6, hq⟩ h
        · exact keysB_other ks (fun e => h6 (.inl e)) (fun e => h6 (.inr e))
      · rintro h ⟨_, h2⟩; rw [h] at h2; cases h2
    unfold nodeR
    rw [if_neg (by omega)]
    constructor
    · intro h
      have h1 : numB k n = true := by
        cases hq : numB k n with
        | true => rfl
        | false => rw [if_pos hq] at h; cases h
      rw [if_neg (by simp [h1])] at h
      have h2 : ¬ (k = 10 ∧ (n < 1 ∨ 16 < n)) := fun e => by rw [if_pos e] at h; cases h
      rw [if_neg h2] at h
      have h3 : cntR k n ks.length nc = true := by
        cases hq : cntR k n ks.length nc with
        | true => rfl
        | false => rw [if_pos hq] at h; cases h
      rw [if_neg (by simp [h3])] at h
      have h4 : ¬ ((k = 6 ∨ k = 9) ∧ keysB k ks = false) := fun e => by rw [if_pos e] at h; cases h
      exact ⟨hk, hn.1 ⟨h1, h2⟩, (hc ⟨h1, h2⟩) ▸ h3, hkb.1 h4⟩
    · rintro ⟨_, h1, h2, h3⟩
      have h1' := hn.2 h1
      rw [if_neg (by simp [h1'.1]), if_neg h1'.2, if_neg (by rw [hc h1', h2]; simp), if_neg (hkb.2 h3)]
  · constructor
    · intro h
      unfold nodeR at h
      rw [if_pos (by omega)] at h
      cases h
    · rintro ⟨h, _⟩; exact absurd h hk
theorem nodeE_iff (a d k n : Int) (ks : List Int) (nc : Nat) : nodeE a d k n ks nc = 0 ↔ (a < 65536 ∧ d ≤ 400 ∧ nodeR k n ks nc = 0) := by
  rw [node_iff]
  unfold nodeE
  constructor
  · intro h
    have h1 : ¬ 65536 ≤ a := fun e => by rw [if_pos e] at h; cases h
    rw [if_neg h1] at h
    have h2 : ¬ 400 < d := fun e => by rw [if_pos e] at h; cases h
    rw [if_neg h2] at h
    have h3 : ¬ (k < 1 ∨ 10 < k) := fun e => by rw [if_pos e] at h; cases h
    rw [if_neg h3] at h
    have h4 : numE k n = 0 := by
      refine Decidable.byContradiction fun e => ?_
      rw [if_pos e] at h; exact e h
    rw [if_neg (by simp [h4])] at h
    have h5 : cntB k n ks.length nc = true := by
      cases hq : cntB k n ks.length nc with
      | true => rfl
      | false => rw [if_pos hq] at h; cases h
    rw [if_neg (by simp [h5])] at h
    have h6 : keysB k ks = true := by
      cases hq : keysB k ks with
      | true => rfl
      | false => rw [if_pos hq] at h; cases h
    exact ⟨by omega, by omega, by omega, h4, h5, h6⟩
  · rintro ⟨h1, h2, h3, h4, h5, h6⟩
    rw [if_neg (by omega), if_neg (by omega), if_neg (by omega), if_neg (by simp [h4]), if_neg (by simp [h5]), if_neg (by simp [h6])]

mutual
theorem itemsF_nodes : ∀ (h : Nat) (d : Int) (t : Core), (∀ x ∈ nodesL d t, x.1 ≤ 400) → h + (nodesL d t).length ≤ 65536 → itemsF h d t = nodesL d t
  | h, d, .mk k n ks cs, hd, hl => by
    simp only [nodesL, List.length_cons] at hd hl
    have h1 := hd _ (List.mem_cons_self ..)
    simp only [itemsF, nodesL]
    rw [if_neg (by omega), if_neg (by simp only at h1; omega), itemsFs_nodes (h + 1) (d + 1) cs (fun x hx => hd x (List.mem_cons_of_mem _ hx)) (by omega)]
theorem itemsFs_nodes : ∀ (h : Nat) (d : Int) (cs : List Core), (∀ x ∈ nodesLs d cs, x.1 ≤ 400) → h + (nodesLs d cs).length ≤ 65536 → itemsFs h d cs = nodesLs d cs
  | h, d, [], hd, hl => rfl
  | h, d, c :: cs, hd, hl => by
    simp only [nodesLs, List.length_append] at hd hl
    simp only [itemsFs, nodesLs]
    rw [if_neg (by omega), itemsF_nodes h d c (fun x hx => hd x (List.mem_append_left _ hx)) (by omega), itemsFs_nodes _ d cs (fun x hx => hd x (List.mem_append_right _ hx)) (by omega)]
end
mutual
theorem nodes_itemsF : ∀ (h : Nat) (d : Int) (t : Core), (∀ x ∈ itemsF h d t, x.1 ≤ 400) → h + (itemsF h d t).length ≤ 65536 → itemsF h d t = nodesL d t
  | h, d, .mk k n ks cs, hd, hl => by
    have h0 : ¬ 65536 < h := by omega
    simp only [itemsF, if_neg h0] at hd hl ⊢
    have h1 := hd _ (List.mem_cons_self ..)
    have h2 : ¬ 400 < d := by simp only at h1; omega
    rw [if_neg h2] at hd hl ⊢
    simp only [List.length_cons] at hl
    simp only [nodesL]
    rw [nodes_itemsFs (h + 1) (d + 1) cs (fun x hx => hd x (List.mem_cons_of_mem _ hx)) (by omega)]
theorem nodes_itemsFs : ∀ (h : Nat) (d : Int) (cs : List Core), (∀ x ∈ itemsFs h d cs, x.1 ≤ 400) → h + (itemsFs h d cs).length ≤ 65536 → itemsFs h d cs = nodesLs d cs
  | h, d, [], hd, hl => rfl
  | h, d, c :: cs, hd, hl => by
    have h0 : ¬ 65536 < h := by omega
    simp only [itemsFs, if_neg h0, List.length_append] at hd hl ⊢
    have h1 := nodes_itemsF h d c (fun x hx => hd x (List.mem_append_left _ hx)) (by omega)
    have h2 := nodes_itemsFs (h + (itemsF h d c).length) d cs (fun x hx => hd x (List.mem_append_right _ hx)) (by omega)
    simp only [nodesLs]
    rw [h2, h1]
end
theorem firstE_iff : ∀ (l : List (Int × Core)) (a : Nat), firstE a l = 0 ↔ ∀ i (h : i < l.length), nodeE ((a + i : Nat) : Int) l[i].1 l[i].2.k l[i].2.n l[i].2.ks l[i].2.cs.length = 0
  | [], a => by simp [firstE]
  | x :: l, a => by
    simp only [firstE]
    constructor
    · intro h
      by_cases hx : nodeE a x.1 x.2.k x.2.n x.2.ks x.2.cs.length = 0
      · rw [if_neg (by simp [hx])] at h
        have ih := (firstE_iff l (a + 1)).1 (by simpa using h)
        intro i hi
        cases i with
        | zero => simpa using hx
        | succ i =>
          have := ih i (by simpa using hi)
          rw [show a + (i + 1) = a + 1 + i from by omega]
          simpa using this
      · rw [if_pos hx] at h; exact absurd h hx
    · intro h
      have h0 := h 0 (by simp)
      simp only [Nat.add_zero, List.getElem_cons_zero] at h0
      rw [if_neg (by simp [h0])]
      have := (firstE_iff l (a + 1)).2 (fun i hi => by
        have := h (i + 1) (by simpa using hi)
        rw [show a + (i + 1) = a + 1 + i from by omega] at this
        simpa using this)
      simpa using this
theorem firstR_iff : ∀ (l : List (Int × Core)) (a : Nat), firstR a l = 0 ↔ ∀ i (h : i < l.length), itemE (a + i) l[i] = 0
  | [], a => by simp [firstR]
  | x :: l, a => by
    simp only [firstR]
    constructor
    · intro h
      by_cases hx : itemE a x = 0
      · rw [if_neg (by simp [hx])] at h
        have ih := (firstR_iff l (a + 1)).1 h
        intro i hi
        cases i with
        | zero => simpa using hx
        | succ i =>
          have := ih i (by simpa using hi)
          rw [show a + (i + 1) = a + 1 + i from by omega]
          simpa using this
      · rw [if_pos hx] at h; exact absurd h hx
    · intro h
      have h0 := h 0 (by simp)
      simp only [Nat.add_zero, List.getElem_cons_zero] at h0
      rw [if_neg (by simp [h0])]
      exact (firstR_iff l (a + 1)).2 (fun i hi => by
        have := h (i + 1) (by simpa using hi)
        rw [show a + (i + 1) = a + 1 + i from by omega] at this
        simpa using this)
theorem itemE_zero {i : Nat} {x : Int × Core} (h : itemE i x = 0) : i ≠ 65536 ∧ x.1 ≤ 400 ∧ nodeR x.2.k x.2.n x.2.ks x.2.cs.length = 0 := by
  unfold itemE at h
  have h1 : i ≠ 65536 := fun e => by rw [if_pos e] at h; cases h
  rw [if_neg h1] at h
  have h2 : ¬ 400 < x.1 := fun e => by rw [if_pos e] at h; cases h
  rw [if_neg h2] at h
  exact ⟨h1, by omega, h⟩
/-- **both call the same terms right** -/
theorem right_iff (t : Core) : rightR t = 0 ↔ rightE t = 0 := by
  have hE := firstE_iff (nodesL 1 t) 0
  have hR := firstR_iff (itemsF 0 1 t) 0
  simp only [Nat.zero_add] at hE hR
  unfold rightR rightE
  constructor
  · intro h
    have h1 := hR.1 h
    have hlen : (itemsF 0 1 t).length ≤ 65536 := by
      refine Decidable.byContradiction fun e => ?_
      exact (itemE_zero (h1 65536 (by omega))).1 rfl
    have heq := nodes_itemsF 0 1 t (fun x hx => by
      obtain ⟨i, hi, rfl⟩ := List.getElem_of_mem hx
      exact (itemE_zero (h1 i hi)).2.1) (by omega)
    have := hE.2 (fun i hi => by
      rw [nodeE_iff]
      have hi' : i < (itemsF 0 1 t).length := by rw [heq]; exact hi
      have h2 := itemE_zero (h1 i hi')
      have hg : (itemsF 0 1 t)[i] = (nodesL 1 t)[i] := by congr 1
      rw [hg] at h2
      exact ⟨by omega, h2.2.1, h2.2.2⟩)
    simpa using this
  · intro h
    have h1 := hE.1 (by simpa using h)
    have hlen : (nodesL 1 t).length ≤ 65536 := by
      refine Decidable.byContradiction fun e => ?_
      have := ((nodeE_iff _ _ _ _ _ _).1 (h1 65536 (by omega))).1
      omega
    have heq := itemsF_nodes 0 1 t (fun x hx => by
      obtain ⟨i, hi, rfl⟩ := List.getElem_of_mem hx
      exact ((nodeE_iff _ _ _ _ _ _).1 (h1 i hi)).2.1) (by omega)
    refine hR.2 (fun i hi => ?_)
    have hi' : i < (nodesL 1 t).length := by rw [← heq]; exact hi
    have h2 := (nodeE_iff _ _ _ _ _ _).1 (h1 i hi')
    have hg : (itemsF 0 1 t)[i] = (nodesL 1 t)[i] := by congr 1
    rw [hg]
    unfold itemE
    rw [if_neg (by omega), if_neg (by omega)]
    exact h2.2.2
end Go.Proofs.YtnolhcdfknjncaaDoor
