/-
  3 texts of this seat in one: Y7 Y4 Y8.
-/
import Derived.Test.YtnobggabjpcbfaaQG12
import Derived.Test.YtnobggabjpcbfaaQG9
import Derived.Test.YtnobggabjpcbfaaQG3
import Derived.Test.YtnobggabjpcbfaaQG15
import Derived.Test.YtnobggabjpcbfaaQG2
import Derived.Test.YtnobggabjpcbfaaQG16
/-
  camletlaw31.grouped: its contract.
-/
set_option linter.unusedVariables false
set_option linter.unusedSimpArgs false
namespace Go.Proofs.Ytnobggabjpcbfaa
open Go.RowKit

theorem infoBind : (Try.prog.info? 54).map (fun i => (i.zero, i.size, i.bytes)) = some (some (.agg #[.int .i64 0, .int .i64 0, .int .i64 0, .slice none 0 0, .slice none 0 0, .slice none 0 0]), 6, 96) := by kernel_rfl
def ownQ (k x : Int) (ats : List Atm) (q : Nat) : Bool := k != 9 || (ats.take q).any (fun a => a.v && a.n == x)
theorem ownQ_zero (k x : Int) (ats : List Atm) : ownQ k x ats 0 = (k != 9) := by simp [ownQ]
theorem ownQ_succ {k x : Int} {ats : List Atm} {q : Nat} {a : Atm} (h : ats[q]? = some a) : ownQ k x ats (q + 1) = (ownQ k x ats q || (a.v && a.n == x)) := by
  unfold ownQ
  rw [List.take_add_one, h]
  simp [List.any_append, Bool.or_assoc]
theorem ownQ_all {k x : Int} {ats : List Atm} {q : Nat} (hq : ats.length ≤ q) : (k = 9 ∧ ats.all (fun a => !(a.v && a.n == x)) = true) ↔ ownQ k x ats q = false := by
  unfold ownQ
  rw [List.take_of_length_le hq, Bool.or_eq_false_iff]
  have h1 : (ats.any (fun a => a.v && a.n == x) = false) ↔ ats.all (fun a => !(a.v && a.n == x)) = true := by
    rw [List.all_eq_not_any_not]
    simp
  rw [h1]
  simp
/-- a bind of the new body, in its row -/
def GRow (BB : Nat) (W w : World) (X3 : Nat) (ob : Option Nat) (x k n : Int) (ats : List Atm) (ks : List Int) (bl : List Anf) (cs : List Value) : Prop :=
  if k = 9 ∧ ats.all (fun a => !(a.v && a.n == x)) = true then
    ∃ (Aa : Option Addr) (ca r : Nat), cs = [.int .i64 x, .int .i64 10, .int .i64 0, .slice Aa ats.length ca, .slice (some ⟨r, 0, none⟩) 3 3, .slice none 0 0] ∧ AtomsIn BB W Aa ats ∧ ats.length ≤ ca ∧ w.heap[r]? = some (.cells #[.int .i64 x, .int .i64 n, .int .i64 (ats.length : Int)] 3 (0, 0)) ∧ X3 < r ∧ ob ≠ some r
  else BindC BB W x k n ats ks bl cs
theorem GRow.keep {BB : Nat} {W w w' : World} {X3 : Nat} {ob ob' : Option Nat} {x k n : Int} {ats : List Atm} {ks : List Int} {bl : List Anf} {cs : List Value} (h : GRow BB W w X3 ob x k n ats ks bl cs) (hk : ∀ r, r < w.heap.size → X3 < r → ob ≠ some r → w'.heap[r]? = w.heap[r]? ∧ ob' ≠ some r) : GRow BB W w' X3 ob' x k n ats ks bl cs := by
  unfold GRow at h ⊢
  split at h
  · rename_i hc
    rw [if_pos hc]
    obtain ⟨Aa, ca, r, h1, h2, h3, h4, h5, h6⟩ := h
    obtain ⟨g1, g2⟩ := hk r (heap_lt h4) h5 h6
    exact ⟨Aa, ca, r, h1, h2, h3, g1.trans h4, h5, g2⟩
  · rename_i hc
    rw [if_neg hc]
    exact h
structure GS (BB : Nat) (W W1 : World) (X3 : Nat) (t : Anf) (j : Nat) (mv : Value) (news : List Value) (wr : World) : Prop where
  bel : Below X3 W1 wr
  h3 : wr.heap[X3]? = some (.cells #[mv, .bool t.last.v, .int .i64 t.last.n] 27 (0, 0))
  row : wr.ownsRow (X3 + 1) 54 6 mv j news
  rep : ∀ i, i < j → ∃ x k n ats ks bl cs, t.tail i = .bind x k n ats ks bl (t.tail (i + 1)) ∧ (∀ q, q < 6 → news[i * 6 + q]? = cs[q]?) ∧ GRow BB W wr X3 mv.ownBlock x k n ats ks bl cs
theorem GS.more {BB : Nat} {W W1 : World} {X3 : Nat} {t : Anf} {j : Nat} {mv v' : Value} {news cs : List Value} {wr w' : World} (h : GS BB W W1 X3 t j mv news wr) {x k n : Int} {ats : List Atm} {ks : List Int} {bl : List Anf} (ht : t.tail j = .bind x k n ats ks bl (t.tail (j + 1)))
    (hos : w'.os = wr.os) (htp : w'.tape = wr.tape) (hou : w'.output = wr.output) (hsz : wr.heap.size ≤ w'.heap.size) (hk : ∀ r, r < wr.heap.size → r ≠ X3 → mv.ownBlock ≠ some r → w'.heap[r]? = wr.heap[r]?)
    (h3 : w'.heap[X3]? = some (.cells #[v', .bool t.last.v, .int .i64 t.last.n] 27 (0, 0))) (hrow : w'.ownsRow (X3 + 1) 54 6 v' (j + 1) (news ++ cs)) (ho : v'.ownBlock = mv.ownBlock ∨ ∃ q, v'.ownBlock = some q ∧ wr.heap.size ≤ q) (hcs : cs.length = 6) (hnew : GRow BB W w' X3 v'.ownBlock x k n ats ks bl cs) : GS BB W W1 X3 t (j + 1) v' (news ++ cs) w' := by
  have hlen := h.row.1
  have hown : ∀ r, r ≤ X3 → mv.ownBlock ≠ some r := fun r hr he => by have := (h.row.lt r he).1; omega
  have h3l := heap_lt h.h3
  refine ⟨⟨hos.trans h.bel.os, htp.trans h.bel.tape, hou.trans h.bel.output, Nat.le_trans h.bel.size hsz, fun r hr => (hk r (by omega) (by omega) (hown r (by omega))).trans (h.bel.block r hr)⟩, h3, hrow, fun i hi => ?_⟩
  by_cases hij : i < j
  · obtain ⟨x', k', n', ats', ks', bl', cs', g1, g2, g3⟩ := h.rep i hij
    refine ⟨x', k', n', ats', ks', bl', cs', g1, fun q hq => by rw [List.getElem?_append_left (by omega)]; exact g2 q hq, g3.keep (fun r hr hX hob => ⟨hk r hr (by omega) hob, ?_⟩)⟩
    rcases ho with ho | ⟨q, ho, hq⟩
    · rw [ho]; exact hob
    · rw [ho]; simp only [ne_eq, Option.some.injEq]; omega
  · have : i = j := by omega
    subst this
    exact ⟨x, k, n, ats, ks, bl, cs, ht, fun q hq => by rw [List.getElem?_append_right (by omega)]; congr 1; omega, hnew⟩
theorem GS.done {BB : Nat} {W W1 : World} {X3 : Nat} {t : Anf} {mv : Value} {news : List Value} {wr w' : World} (h : GS BB W W1 X3 t t.len mv news wr) (hW : Below W.heap.size W w') (hBW : BB ≤ W.heap.size) (hWX : W.heap.size ≤ X3) (hsz : w'.heap.size = wr.heap.size) (hk : ∀ r, X3 < r → w'.heap[r]? = wr.heap[r]?) (hl : t.len * 96 ≤ 140737488351232) :
    ∃ A c, mv = .slice A t.len c ∧ BodyOn (fun k => k < BB ∨ (W.heap.size ≤ k ∧ k < w'.heap.size)) w' (grouped t) #[.slice A t.len c, .bool t.last.v, .int .i64 t.last.n] := by
  have hrow' : w'.ownsRow (X3 + 1) 54 6 mv (grouped t).len news := by
    rw [grouped_len]
    exact ownsRow_same h.row (fun q hq => hk q (by have := (h.row.lt q hq).1; omega))
  have := body_of_row_on (F := fun k => k < BB ∨ (W.heap.size ≤ k ∧ k < w'.heap.size)) (t := grouped t) hrow' (fun g hg => .inr (by have := hrow'.lt g hg; omega)) (fun i hi => ?_) (by rw [grouped_len]; exact hl)
  · rw [grouped_len, grouped_last] at this
    exact this
  · rw [grouped_len] at hi
    obtain ⟨x, k, n, ats, ks, bl, cs, g1, g2, g3⟩ := h.rep i hi
    unfold GRow at g3
    have ht : (grouped t).tail i = grouped (.bind x k n ats ks bl (t.tail (i + 1))) := by rw [grouped_tail, g1]
    have hag : Agree (· < BB) W w' := fun q hq => hW.block q (Nat.lt_of_lt_of_le hq hBW)
    by_cases hc : k = 9 ∧ ats.all (fun a => !(a.v && a.n == x)) = true
    · rw [if_pos hc] at g3
      obtain ⟨Aa, ca, r, rfl, k2, k3, k4, k5, k6⟩ := g3
      refine ⟨x, 10, 0, ats, [x, n, ats.length], [], _, ?_, g2, Aa, some ⟨r, 0, none⟩, none, ca, 3, 0, rfl, ((show AtomsOn (· < BB) W Aa ats from k2).kept hag).mono (fun q hq => .inl hq), k3, ?_, by simp, by simp, by simp, fun j hj => absurd hj (by simp)⟩
      · rw [ht, grouped, if_pos hc, grouped_tail]
      · have hr : w'.heap[r]? = _ := (hk r k5).trans k4
        have hrl := heap_lt k4
        refine ⟨by simp, .inr ⟨r, 0, rfl, .inr ⟨by omega, by omega⟩, fun j hj => ?_⟩⟩
        have : j = 0 ∨ j = 1 ∨ j = 2 := by simp at hj; omega
        rcases this with rfl | rfl | rfl <;> simp [World.cell?, hr, nth]
    · rw [if_neg hc] at g3
      refine ⟨x, k, n, ats, ks, bl, cs, ?_, g2, (g3.on.kept hag).mono (fun q hq => .inl hq)⟩
      rw [ht, grouped, if_neg hc, grouped_tail]
theorem six_one (x k n : Int) (Aa Ak Al : Option Addr) (na nk nl ca ck cl : Nat) : ∀ u ∈ [Value.int .i64 x, .int .i64 k, .int .i64 n, .slice Aa na ca, .slice Ak nk ck, .slice Al nl cl], u.oneCell' = true := by
  intro u hu
  simp only [List.mem_cons, List.not_mem_nil, or_false] at hu
  rcases hu with rfl | rfl | rfl | rfl | rfl | rfl <;> rfl
theorem alloc_lt (w : World) (o : Obj) {r : Nat} (h : r < w.heap.size) : (w.alloc o).heap[r]? = w.heap[r]? := ((Below.refl _ _).alloc (Nat.le_refl _) _ : Below w.heap.size w (w.alloc o)).block r h
theorem set5_size (w : World) (X : Nat) (a b c d e : Value) : (((((w.setCell ⟨X, 1, none⟩ a).setCell ⟨X, 2, none⟩ b).setCell ⟨X, 3, none⟩ c).setCell ⟨X, 4, none⟩ d).setCell ⟨X, 5, none⟩ e).heap.size = w.heap.size := by simp [World.setCell]
theorem set5_ne {w : World} {X r : Nat} (h : r ≠ X) (a b c d e : Value) : (((((w.setCell ⟨X, 1, none⟩ a).setCell ⟨X, 2, none⟩ b).setCell ⟨X, 3, none⟩ c).setCell ⟨X, 4, none⟩ d).setCell ⟨X, 5, none⟩ e).heap[r]? = w.heap[r]? := by
  rw [heap_set_ne h, heap_set_ne h, heap_set_ne h, heap_set_ne h, heap_set_ne h]
set_option maxRecDepth 100000 in
set_option maxHeartbeats 16000000 in
theorem grouped_any {BB : Nat} {t : Anf} {v : Array Value} (W : World) (hin : BodyIn BB W t v) (hBW : BB ≤ W.heap.size) (hl : t.len ≤ 1000000) :
    Calls Try.prog 14 #[.agg v] W fun e w' => ∃ v0 v1 v2, e = .returned (.agg #[v0, v1, v2]) ∧ BodyOn (fun k => k < BB ∨ (W.heap.size ≤ k ∧ k < w'.heap.size)) w' (grouped t) #[v0, v1, v2] ∧ Below W.heap.size W w' := by
  obtain ⟨A, c, b, o, rfl, hc, h96, hA, hB⟩ := hin.at_
  obtain ⟨Wa, hWa⟩ : ∃ w, W.alloc (.cells #[.slice A t.len c, .bool t.last.v, .int .i64 t.last.n] 27) = w := ⟨_, rfl⟩
  obtain ⟨Wb, hWb⟩ : ∃ w, Wa.alloc (.cells #[.slice none 0 0, .bool false, .int .i64 0] 27) = w := ⟨_, rfl⟩
  obtain ⟨W1, hW1⟩ : ∃ w, Wb.alloc (.cells #[.slice none 0 0, .bool t.last.v, .int .i64 t.last.n] 27) = w := ⟨_, rfl⟩
  have sa : Wa.heap.size = W.heap.size + 1 := by rw [← hWa]; simp
  have sb : Wb.heap.size = W.heap.size + 2 := by rw [← hWb, World.size_alloc, sa]
  have s1 : W1.heap.size = W.heap.size + 3 := by rw [← hW1, World.size_alloc, sb]
  have ba : Below W.heap.size W Wa := by rw [← hWa]; exact (Below.refl _ _).alloc (Nat.le_refl _) _
  have bb : Below Wa.heap.size Wa Wb := by rw [← hWb]; exact (Below.refl _ _).alloc (Nat.le_refl _) _
  have b1 : Below Wb.heap.size Wb W1 := by rw [← hW1]; exact (Below.refl _ _).alloc (Nat.le_refl _) _
  have na : Wa.heap[W.heap.size]? = some (.cells #[.slice A t.len c, .bool t.last.v, .int .i64 t.last.n] 27 (0, 0)) := by rw [← hWa]; exact World.alloc_heap_new W _
  have nb : Wb.heap[Wa.heap.size]? = some (.cells #[.slice none 0 0, .bool false, .int .i64 0] 27 (0, 0)) := by rw [← hWb]; exact World.alloc_heap_new Wa _
  have n1 : W1.heap[Wb.heap.size]? = some (.cells #[.slice none 0 0, .bool t.last.v, .int .i64 t.last.n] 27 (0, 0)) := by rw [← hW1]; exact World.alloc_heap_new Wb _
  have bW1 : Below W.heap.size W W1 := (ba.trans (bb.mono (by omega))).trans (b1.mono (by omega))
  have x1 : W1.heap[W.heap.size]? = some (.cells #[.slice A t.len c, .bool t.last.v, .int .i64 t.last.n] 27 (0, 0)) := (b1.block _ (by omega)).trans ((bb.block _ (by omega)).trans na)
  have x2 : W1.heap[Wa.heap.size]? = some (.cells #[.slice none 0 0, .bool false, .int .i64 0] 27 (0, 0)) := (b1.block _ (by omega)).trans nb
  -- what is read, wherever nothing below X3 has turned
  have HBV := Lib.hid (fun (V : World) (hV : Below Wb.heap.size W1 V) => (show Below W.heap.size W V from bW1.trans (hV.mono (by omega))))
  have HX1 := Lib.hid (fun (V : World) (hV : Below Wb.heap.size W1 V) => (show V.cell? ⟨W.heap.size, 0, none⟩ = some (.slice A t.len c) from by
    have h := (hV.block W.heap.size (by omega)).trans x1
    simp [World.cell?, h]))
  have HX2 := Lib.hid (fun (V : World) (hV : Below Wb.heap.size W1 V) => (show V.heap[Wa.heap.size]? = some (.cells #[.slice none 0 0, .bool false, .int .i64 0] 27 (0, 0)) from (hV.block Wa.heap.size (by omega)).trans x2))
  have HBI := Lib.hid (fun (i : Nat) (hi : i < t.len) (V : World) (hV : Below Wb.heap.size W1 V) =>
    (show ∃ x k n ats ks bl Aa ca Ak ck Al cl, A = some ⟨b, o, none⟩ ∧ Hid (t.tail i = .bind x k n ats ks bl (t.tail (i + 1))) ∧ (V.cell? ⟨b, o + i * 6, none⟩ = some (.int .i64 x) ∧ V.cell? ⟨b, o + i * 6 + 1, none⟩ = some (.int .i64 k) ∧ V.cell? ⟨b, o + i * 6 + 2, none⟩ = some (.int .i64 n) ∧ V.cell? ⟨b, o + i * 6 + 3, none⟩ = some (.slice Aa ats.length ca) ∧ V.cell? ⟨b, o + i * 6 + 4, none⟩ = some (.slice Ak ks.length ck) ∧ V.cell? ⟨b, o + i * 6 + 5, none⟩ = some (.slice Al bl.length cl)) ∧ ats.length ≤ ca ∧ ats.length * 16 ≤ 140737488351232 ∧
      Hid (AtomsIn BB W Aa ats) ∧ Hid (BindC BB W x k n ats ks bl [.int .i64 x, .int .i64 k, .int .i64 n, .slice Aa ats.length ca, .slice Ak ks.length ck, .slice Al bl.length cl]) from by
      obtain ⟨x, k, n, ats, ks, bl, Aa, ca, Ak, ck, Al, cl, he, hbi⟩ := hB i hi
      have hV0 := (HBV.out V hV).mono hBW
      exact ⟨x, k, n, ats, ks, bl, Aa, ca, Ak, ck, Al, cl, hA (by omega), Lib.hid he, ⟨(hV0.cell (p := ⟨_, _, none⟩) hbi.lt).trans hbi.c0, (hV0.cell (p := ⟨_, _, none⟩) hbi.lt).trans hbi.c1, (hV0.cell (p := ⟨_, _, none⟩) hbi.lt).trans hbi.c2, (hV0.cell (p := ⟨_, _, none⟩) hbi.lt).trans hbi.c3, (hV0.cell (p := ⟨_, _, none⟩) hbi.lt).trans hbi.c4, (hV0.cell (p := ⟨_, _, none⟩) hbi.lt).trans hbi.c5⟩, hbi.hac, hbi.ha.1, Lib.hid hbi.ha, Lib.hid hbi.vals⟩))
  have HAT := Lib.hid (fun (Aa : Option Addr) (ats : List Atm) (ha : AtomsIn BB W Aa ats) (q : Nat) (hq : q < ats.length) (V : World) (hV : Below W.heap.size W V) => (show ∃ a b_ o_, ats[q]? = some a ∧ Aa = some ⟨b_, o_, none⟩ ∧ V.cell? ⟨b_, o_ + q * 2, none⟩ = some (.bool a.v) ∧ V.cell? ⟨b_, o_ + q * 2 + 1, none⟩ = some (.int .i64 a.n) from by
    rcases ha.2 with h0 | ⟨b_, o_, h1, h2, h3⟩
    · rw [h0] at hq; simp at hq
    · exact ⟨(ats[q]?.getD default), b_, o_, by rw [List.getElem?_eq_getElem hq]; rfl, h1, (hV.cell (p := ⟨_, _, none⟩) (Nat.lt_of_lt_of_le h2 hBW)).trans (h3 q hq).1, (hV.cell (p := ⟨_, _, none⟩) (Nat.lt_of_lt_of_le h2 hBW)).trans (h3 q hq).2⟩))
  have HST := Lib.hid (show GS BB W W1 Wb.heap.size t 0 (.slice none 0 0) [] W1 from ⟨Below.refl _ _, n1, ⟨by simp, .inl ⟨rfl, rfl⟩⟩, fun i hi => absurd hi (Nat.not_lt_zero _)⟩)
  have HFIN := Lib.hid (fun (j : Nat) (hj : j = t.len) (mv : Value) (news : List Value) (wr w' : World) (h : GS BB W W1 Wb.heap.size t j mv news wr) (hs : w'.heap.size = wr.heap.size) (hos : w'.os = wr.os) (htp : w'.tape = wr.tape) (hou : w'.output = wr.output) (hk : ∀ r, r ≠ Wa.heap.size → w'.heap[r]? = wr.heap[r]?) =>
    (show ∃ A c, mv = .slice A t.len c ∧ BodyOn (fun k => k < BB ∨ (W.heap.size ≤ k ∧ k < w'.heap.size)) w' (grouped t) #[.slice A t.len c, .bool t.last.v, .int .i64 t.last.n] ∧ Below W.heap.size W w' from by
      subst hj
      have hW := HBV.out wr h.bel
      have hW' : Below W.heap.size W w' := ⟨hos.trans hW.os, htp.trans hW.tape, hou.trans hW.output, by rw [hs]; exact hW.size, fun r hr => (hk r (by omega)).trans (hW.block r hr)⟩
      obtain ⟨A', c', e1, e2⟩ := h.done hW' hBW (by omega) hs (fun r hr => hk r (by omega)) h96
      exact ⟨A', c', e1, e2, hW'⟩))
  have HSX := Lib.hid (show Wa.heap.size ≠ Wb.heap.size ∧ W1.heap.size = Wb.heap.size + 1 ∧ W.heap.size < Wb.heap.size from by omega)
  have y0 : W1.cell? ⟨W.heap.size, 0, none⟩ = some (.slice A t.len c) := HX1.out W1 (Below.refl _ _)
  have y1 : Wb.cell? ⟨W.heap.size, 1, none⟩ = some (.bool t.last.v) := by
    have h := (bb.block W.heap.size (by omega)).trans na
    simp [World.cell?, h]
  have y2 : Wb.cell? ⟨W.heap.size, 2, none⟩ = some (.int .i64 t.last.n) := by
    have h := (bb.block W.heap.size (by omega)).trans na
    simp [World.cell?, h]
  obtain ⟨i0, hinf, hz0, hz1, hz2⟩ := info_parts infoBind
  obtain ⟨T, hT⟩ : ∃ T, t.len = T := ⟨_, rfl⟩
  have HLEN := Lib.hid hT
  clear hin hA hB sa sb s1 ba bb b1 na nb n1 bW1 x1 x2
  rw [hT] at hc h96 hl HX1 HBI HFIN y0 hWa ⊢
  clear hT
  obtain ⟨lv, hlv⟩ : ∃ z, t.last.v = z := ⟨_, rfl⟩
  obtain ⟨ln, hln⟩ : ∃ z, t.last.n = z := ⟨_, rfl⟩
  have HLV := Lib.hid hlv
  have HLN := Lib.hid hln
  rw [hlv, hln] at hWa hW1 HFIN ⊢
  rw [hlv] at y1
  rw [hln] at y2
  clear hlv hln
  go_enter Try.func14, Try.ntmps14
  go_wp2_with fail
  go_loopw [15] (fun iv wr => ∃ (j : Nat) (mv : Value) (news : List Value), j ≤ T ∧ iv = .int .i64 (j : Int) ∧ Hid (GS BB W W1 Wb.heap.size t j mv news wr)) (fun iv _ => T + 1 - (intOf iv).toNat)
  case atStart => exact ⟨0, _, _, by omega, rfl, HST⟩
  case round =>
    obtain ⟨wo, rfl⟩ : ∃ wo, wo = wr := ⟨_, rfl⟩
    obtain ⟨j, mv, news, hj, rfl, HJ⟩ := hrel
    by_cases hlt : j < T
    · obtain ⟨x, k, n, ats, ks, bl, Aa, ca, Ak, ck, Al, cl, rfl, htail, ⟨s0, s1, s2, s3, s4, s5⟩, hac, h16, HA, HBC⟩ := HBI.out j hlt wo HJ.out.bel
      have e1 : (0 : Int) ≤ (j : Int) := by omega
      have e2 : (j : Int) < (T : Int) := by omega
      have e4 : IntKind.i64.wrap ((j : Int) + 1) = (j : Int) + 1 := by rw [IntKind.wrap_i64]; omega
      have e5 : (T : Int) ≤ (c : Int) := by omega
      obtain ⟨W5, hW5⟩ : ∃ w, wo.alloc (.cells #[.int .i64 x, .int .i64 k, .int .i64 n, .slice Aa ats.length ca, .slice Ak ks.length ck, .slice Al bl.length cl] 54) = w := ⟨_, rfl⟩
      have hb5 : Below wo.heap.size wo W5 := by rw [← hW5]; exact (Below.refl _ _).alloc (Nat.le_refl _) _
      have hs5 : W5.heap.size = wo.heap.size + 1 := by rw [← hW5]; simp
      have hn5 : W5.heap[wo.heap.size]? = some (.cells #[.int .i64 x, .int .i64 k, .int .i64 n, .slice Aa ats.length ca, .slice Ak ks.length ck, .slice Al bl.length cl] 54 (0, 0)) := by rw [← hW5]; exact World.alloc_heap_new wo _
      have HD := Lib.hid (fun (V : World) (hV : Below W5.heap.size W5 V) => (show V.heap[wo.heap.size]? = some (.cells #[.int .i64 x, .int .i64 k, .int .i64 n, .slice Aa ats.length ca, .slice Ak ks.length ck, .slice Al bl.length cl] 54 (0, 0)) from (hV.block wo.heap.size (by omega)).trans hn5))
      have HDC := Lib.hid (fun (V : World) (hV : Below W5.heap.size W5 V) => (show V.cell? ⟨wo.heap.size, 0, none⟩ = some (.int .i64 x) ∧ V.cell? ⟨wo.heap.size, 1, none⟩ = some (.int .i64 k) ∧ V.cell? ⟨wo.heap.size, 2, none⟩ = some (.int .i64 n) ∧ V.cell? ⟨wo.heap.size, 3, none⟩ = some (.slice Aa ats.length ca) ∧ V.cell? ⟨wo.heap.size, 4, none⟩ = some (.slice Ak ks.length ck) ∧ V.cell? ⟨wo.heap.size, 5, none⟩ = some (.slice Al bl.length cl) ∧ ∀ i, V.frozen? ⟨wo.heap.size, i, none⟩ = false from by
        have h := HD.out V hV
        exact ⟨by simp [World.cell?, h], by simp [World.cell?, h], by simp [World.cell?, h], by simp [World.cell?, h], by simp [World.cell?, h], by simp [World.cell?, h], fun i => by simp [World.frozen?, h]⟩))
      obtain ⟨d0, d1, d2, d3, d4, d5, d6⟩ := HDC.out W5 (Below.refl _ _)
      have HB5 := Lib.hid (show Below W.heap.size W W5 ∧ Below wo.heap.size wo W5 ∧ W5.heap.size = wo.heap.size + 1 from ⟨(HBV.out wo HJ.out.bel).trans (hb5.mono (HBV.out wo HJ.out.bel).size), hb5, hs5⟩)
      have HQ0 := Lib.hid (ownQ_zero k x ats)
      clear hb5 hs5 hn5
      go_wp2_with fail
      go_loopw [6, 27] (fun ov iv wr2 => ∃ q : Nat, q ≤ ats.length ∧ iv = .int .i64 (q : Int) ∧ ov = .bool (ownQ k x ats q) ∧ Hid (Below W5.heap.size W5 wr2)) (fun _ iv _ => ats.length + 1 - (intOf iv).toNat)
      case atStart => exact ⟨0, by omega, rfl, by rw [HQ0.out], Lib.hid (Below.refl _ _)⟩
      case round =>
        obtain ⟨wq, rfl⟩ : ∃ wq, wq = wr := ⟨_, rfl⟩
        obtain ⟨q, hq, rfl, rfl, HQ⟩ := hrel
        obtain ⟨f0, f1, f2, f3, f4, f5, f6⟩ := HDC.out wq HQ.out
        by_cases hlq : q < ats.length
        · obtain ⟨a, b_, o_, hat, rfl, a0, a1⟩ := HAT.out Aa ats HA.out q hlq wq (HB5.out.1.trans (HQ.out.mono HB5.out.1.size))
          have HSU := Lib.hid (ownQ_succ (k := k) (x := x) hat)
          have d1' : (0 : Int) ≤ (q : Int) := by omega
          have d2' : (q : Int) < (ats.length : Int) := by omega
          have d3' : (ats.length : Int) ≤ (ca : Int) := by omega
          have d4' : IntKind.i64.wrap ((q : Int) + 1) = (q : Int) + 1 := by rw [IntKind.wrap_i64]; omega
          obtain ⟨av, an⟩ := a
          simp only [] at a0 a1
          obtain ⟨W8, hW8⟩ : ∃ w, wq.alloc (.cells #[.bool av, .int .i64 an] 25) = w := ⟨_, rfl⟩
          have hb8 : Below wq.heap.size wq W8 := by rw [← hW8]; exact (Below.refl _ _).alloc (Nat.le_refl _) _
          have hn8 : W8.heap[wq.heap.size]? = some (.cells #[.bool av, .int .i64 an] 25 (0, 0)) := by rw [← hW8]; exact World.alloc_heap_new wq _
          have g0 : W8.cell? ⟨wq.heap.size, 0, none⟩ = some (.bool av) := by simp [World.cell?, hn8]
          have g1 : W8.cell? ⟨wq.heap.size, 1, none⟩ = some (.int .i64 an) := by simp [World.cell?, hn8]
          have HQ8 := Lib.hid (HQ.out.trans (hb8.mono HQ.out.size))
          obtain ⟨k0, k1, k2, k3, k4, k5, k6⟩ := HDC.out W8 HQ8.out
          clear hb8 hn8 hat
          obtain ⟨ob, hob⟩ : ∃ z, ownQ k x ats q = z := ⟨_, rfl⟩
          rw [hob] at HSU ⊢
          clear hob
          have hcase : ob = true ∨ (ob = false ∧ av = false) ∨ (ob = false ∧ av = true ∧ (an == x) = true) ∨ (ob = false ∧ av = true ∧ (an == x) = false) := by
            cases ob <;> cases av <;> cases (an == x) <;> simp
          rcases hcase with rfl | ⟨rfl, rfl⟩ | ⟨rfl, rfl, hx⟩ | ⟨rfl, rfl, hx⟩
          · go_wp2_with fail
            go_roundw
            case rel => exact ⟨q + 1, by omega, by go_num, by rw [HSU.out]; simp, HQ8⟩
            case measure => simp [intOf]; omega
          · go_wp2_with fail
            go_roundw
            case rel => exact ⟨q + 1, by omega, by go_num, by rw [HSU.out]; simp, HQ8⟩
            case measure => simp [intOf]; omega
          · go_wp2_with fail
            go_roundw
            case rel => exact ⟨q + 1, by omega, by go_num, by rw [HSU.out]; simp [hx], HQ8⟩
            case measure => simp [intOf]; omega
          · go_wp2_with fail
            go_roundw
            case rel => exact ⟨q + 1, by omega, by go_num, by rw [HSU.out]; simp [hx], HQ8⟩
            case measure => simp [intOf]; omega
        · have f2' : ¬ (q : Int) < (ats.length : Int) := by omega
          have HCOND := Lib.hid (ownQ_all (k := k) (x := x) (ats := ats) (q := q) (by omega))
          obtain ⟨ob, hob⟩ : ∃ z, ownQ k x ats q = z := ⟨_, rfl⟩
          rw [hob] at HCOND ⊢
          clear hob
          have hx3 := HJ.out.h3
          have HQW := Lib.hid (show Below wo.heap.size wo wq ∧ wo.heap.size < wq.heap.size from ⟨HB5.out.2.1.trans (HQ.out.mono (by have := HB5.out.2.2; omega)), by have := HB5.out.2.2; have := HQ.out.size; omega⟩)
          have hx3q : wq.heap[Wb.heap.size]? = some (.cells #[mv, .bool t.last.v, .int .i64 t.last.n] 27 (0, 0)) := (HQW.out.1.block _ (heap_lt hx3)).trans hx3
          have c30 : wq.cell? ⟨Wb.heap.size, 0, none⟩ = some mv := by simp [World.cell?, hx3q]
          have c3f : wq.frozen? ⟨Wb.heap.size, 0, none⟩ = false := by simp [World.frozen?, hx3q]
          have HX3 := Lib.hid (And.intro hx3q (heap_lt hx3))
          clear hx3 hx3q
          cases ob
          · have hc := HCOND.out.2 rfl
            obtain ⟨rfl, hall⟩ := hc
            have HALL := Lib.hid hall
            clear hall
            obtain ⟨W9, hW9⟩ : ∃ w, wq.alloc (.cells #[.int .i64 x, .int .i64 n, .int .i64 (ats.length : Int)] 3) = w := ⟨_, rfl⟩
            have hb9 : Below wq.heap.size wq W9 := by rw [← hW9]; exact (Below.refl _ _).alloc (Nat.le_refl _) _
            have HW9 := Lib.hid (show W9.heap.size = wq.heap.size + 1 from by rw [← hW9]; simp)
            have HN9 := Lib.hid (show W9.heap[wq.heap.size]? = some (.cells #[.int .i64 x, .int .i64 n, .int .i64 (ats.length : Int)] 3 (0, 0)) from by rw [← hW9]; exact World.alloc_heap_new wq _)
            have HB9 := Lib.hid (HQ.out.trans (hb9.mono HQ.out.size))
            obtain ⟨k0, k1, k2, k3, k4, k5, k6⟩ := HDC.out W9 HB9.out
            have m30 : W9.cell? ⟨Wb.heap.size, 0, none⟩ = some mv := cell_behind hb9 c30
            have hne1 : ¬ Wb.heap.size = wo.heap.size := by have := HX3.out.2; omega
            have hne2 : ¬ wo.heap.size = Wb.heap.size := by have := HX3.out.2; omega
            have HOS := Lib.hid (show W9.os = wo.os ∧ W9.tape = wo.tape ∧ W9.output = wo.output from ⟨hb9.os.trans HQW.out.1.os, hb9.tape.trans HQW.out.1.tape, hb9.output.trans HQW.out.1.output⟩)
            have HKEEP := Lib.hid (fun (r : Nat) (hr : r < wo.heap.size) => (set5_ne (w := W9) (X := wo.heap.size) (r := r) (by omega) (.int .i64 10) (.int .i64 0) (.slice Aa ats.length ca) (.slice (some ⟨wq.heap.size, 0, none⟩) 3 3) (.slice none 0 0)).trans ((hb9.block r (by have := HQW.out.2; omega)).trans (HQW.out.1.block r hr)))
            have HLE := Lib.hid hb9.size
            clear hb9
            have HROW := Lib.hid (show (((((W9.setCell ⟨wo.heap.size, 1, none⟩ (.int .i64 10)).setCell ⟨wo.heap.size, 2, none⟩ (.int .i64 0)).setCell ⟨wo.heap.size, 3, none⟩ (.slice Aa ats.length ca)).setCell ⟨wo.heap.size, 4, none⟩ (.slice (some ⟨wq.heap.size, 0, none⟩) 3 3)).setCell ⟨wo.heap.size, 5, none⟩ (.slice none 0 0)).ownsRow (Wb.heap.size + 1) 54 6 mv j news from ownsRow_same HJ.out.row (fun q_ hq_ => HKEEP.out q_ (HJ.out.row.lt q_ hq_).2))
            have HRB := Lib.hid (show RowI ((((((W9.setCell ⟨wo.heap.size, 1, none⟩ (.int .i64 10)).setCell ⟨wo.heap.size, 2, none⟩ (.int .i64 0)).setCell ⟨wo.heap.size, 3, none⟩ (.slice Aa ats.length ca)).setCell ⟨wo.heap.size, 4, none⟩ (.slice (some ⟨wq.heap.size, 0, none⟩) 3 3)).setCell ⟨wo.heap.size, 5, none⟩ (.slice none 0 0)).alloc (.cells #[.int .i64 x, .int .i64 10, .int .i64 0, .slice Aa ats.length ca, .slice (some ⟨wq.heap.size, 0, none⟩) 3 3, .slice none 0 0] 54)) (some ⟨W9.heap.size, 0, none⟩) [.int .i64 x, .int .i64 10, .int .i64 0, .slice Aa ats.length ca, .slice (some ⟨wq.heap.size, 0, none⟩) 3 3, .slice none 0 0] from row_blk (by have h := World.alloc_heap_new (((((W9.setCell ⟨wo.heap.size, 1, none⟩ (.int .i64 10)).setCell ⟨wo.heap.size, 2, none⟩ (.int .i64 0)).setCell ⟨wo.heap.size, 3, none⟩ (.slice Aa ats.length ca)).setCell ⟨wo.heap.size, 4, none⟩ (.slice (some ⟨wq.heap.size, 0, none⟩) 3 3)).setCell ⟨wo.heap.size, 5, none⟩ (.slice none 0 0)) (.cells #[.int .i64 x, .int .i64 10, .int .i64 0, .slice Aa ats.length ca, .slice (some ⟨wq.heap.size, 0, none⟩) 3 3, .slice none 0 0] 54); rwa [(show (((((W9.setCell ⟨wo.heap.size, 1, none⟩ (.int .i64 10)).setCell ⟨wo.heap.size, 2, none⟩ (.int .i64 0)).setCell ⟨wo.heap.size, 3, none⟩ (.slice Aa ats.length ca)).setCell ⟨wo.heap.size, 4, none⟩ (.slice (some ⟨wq.heap.size, 0, none⟩) 3 3)).setCell ⟨wo.heap.size, 5, none⟩ (.slice none 0 0)).heap.size = W9.heap.size from set5_size _ _ _ _ _ _ _)] at h))
            have HSZ := Lib.hid (show Wb.heap.size + 1 ≤ ((((((W9.setCell ⟨wo.heap.size, 1, none⟩ (.int .i64 10)).setCell ⟨wo.heap.size, 2, none⟩ (.int .i64 0)).setCell ⟨wo.heap.size, 3, none⟩ (.slice Aa ats.length ca)).setCell ⟨wo.heap.size, 4, none⟩ (.slice (some ⟨wq.heap.size, 0, none⟩) 3 3)).setCell ⟨wo.heap.size, 5, none⟩ (.slice none 0 0)).alloc (.cells #[.int .i64 x, .int .i64 10, .int .i64 0, .slice Aa ats.length ca, .slice (some ⟨wq.heap.size, 0, none⟩) 3 3, .slice none 0 0] 54)).heap.size from by rw [World.size_alloc, (show (((((W9.setCell ⟨wo.heap.size, 1, none⟩ (.int .i64 10)).setCell ⟨wo.heap.size, 2, none⟩ (.int .i64 0)).setCell ⟨wo.heap.size, 3, none⟩ (.slice Aa ats.length ca)).setCell ⟨wo.heap.size, 4, none⟩ (.slice (some ⟨wq.heap.size, 0, none⟩) 3 3)).setCell ⟨wo.heap.size, 5, none⟩ (.slice none 0 0)).heap.size = W9.heap.size from set5_size _ _ _ _ _ _ _)]; have h1 := HX3.out.2; have h2 := HQW.out.2; have h3 := (show wq.heap.size ≤ W9.heap.size from HLE.out); omega)
            have HX3c := Lib.hid (show ((((((W9.setCell ⟨wo.heap.size, 1, none⟩ (.int .i64 10)).setCell ⟨wo.heap.size, 2, none⟩ (.int .i64 0)).setCell ⟨wo.heap.size, 3, none⟩ (.slice Aa ats.length ca)).setCell ⟨wo.heap.size, 4, none⟩ (.slice (some ⟨wq.heap.size, 0, none⟩) 3 3)).setCell ⟨wo.heap.size, 5, none⟩ (.slice none 0 0)).alloc (.cells #[.int .i64 x, .int .i64 10, .int .i64 0, .slice Aa ats.length ca, .slice (some ⟨wq.heap.size, 0, none⟩) 3 3, .slice none 0 0] 54)).heap[Wb.heap.size]? = some (.cells #[mv, .bool t.last.v, .int .i64 t.last.n] 27 (0, 0)) from by rw [alloc_lt _ _ (by rw [(show (((((W9.setCell ⟨wo.heap.size, 1, none⟩ (.int .i64 10)).setCell ⟨wo.heap.size, 2, none⟩ (.int .i64 0)).setCell ⟨wo.heap.size, 3, none⟩ (.slice Aa ats.length ca)).setCell ⟨wo.heap.size, 4, none⟩ (.slice (some ⟨wq.heap.size, 0, none⟩) 3 3)).setCell ⟨wo.heap.size, 5, none⟩ (.slice none 0 0)).heap.size = W9.heap.size from set5_size _ _ _ _ _ _ _)]; have h1 := HX3.out.2; have h2 := HQW.out.2; have h3 := (show wq.heap.size ≤ W9.heap.size from HLE.out); omega), HKEEP.out _ HX3.out.2]; exact HJ.out.h3)
            have HOWN := Lib.hid (fun (q_ : Nat) (hq_ : mv.ownBlock = some q_) => HJ.out.row.lt q_ hq_)
            have hml : j + 1 ≤ maxLen := by unfold maxLen; omega
            have hmb : (j + 1) * 96 ≤ 140737488355328 := by omega
            go_wp2_with (at_builtin; refine wpList_append_row _ rfl _ _ 23 rfl (Wb.heap.size + 1) 54 i0 (.agg #[.int .i64 0, .int .i64 0, .int .i64 0, .slice none 0 0, .slice none 0 0, .slice none 0 0]) 6 96 Try.underlying23 hinf hz0 hz1 hz2 rfl (by decide) _ j news rfl (HROW.out.alloc _) (some ⟨W9.heap.size, 0, none⟩) 1 1 [.int .i64 x, .int .i64 10, .int .i64 0, .slice Aa ats.length ca, .slice (some ⟨wq.heap.size, 0, none⟩) 3 3, .slice none 0 0] rfl rfl HRB.out (six_one _ _ _ _ _ _ _ _ _ _ _ _) hml hmb HSZ.out ?_; intro v' w10 hown_ hgrow_ hat_; obtain ⟨An, cn, rfl⟩ := own_slice hown_; have HX10 := Lib.hid (show w10.heap[Wb.heap.size]? = some (.cells #[mv, .bool t.last.v, .int .i64 t.last.n] 27 (0, 0)) from (hgrow_.block _ (heap_lt HX3c.out) (fun e => by have := (HOWN.out _ e.symm).1; omega)).trans HX3c.out); have r30 : w10.cell? ⟨Wb.heap.size, 0, none⟩ = some mv := (by have h := HX10.out; simp [World.cell?, h]); have r3f : w10.frozen? ⟨Wb.heap.size, 0, none⟩ = false := (by have h := HX10.out; simp [World.frozen?, h]); have HO10 := Lib.hid hown_; have HG10 := Lib.hid hgrow_; have HA10 := Lib.hid hat_; clear hown_ hgrow_ hat_)
            have HNEW := Lib.hid (show GS BB W W1 Wb.heap.size t (j + 1) (.slice An (j + 1) cn) (news ++ [.int .i64 x, .int .i64 10, .int .i64 0, .slice Aa ats.length ca, .slice (some ⟨wq.heap.size, 0, none⟩) 3 3, .slice none 0 0]) (w10.setCell ⟨Wb.heap.size, 0, none⟩ (.slice An (j + 1) cn)) from by
              have hcs := (show (((((W9.setCell ⟨wo.heap.size, 1, none⟩ (.int .i64 10)).setCell ⟨wo.heap.size, 2, none⟩ (.int .i64 0)).setCell ⟨wo.heap.size, 3, none⟩ (.slice Aa ats.length ca)).setCell ⟨wo.heap.size, 4, none⟩ (.slice (some ⟨wq.heap.size, 0, none⟩) 3 3)).setCell ⟨wo.heap.size, 5, none⟩ (.slice none 0 0)).heap.size = W9.heap.size from set5_size _ _ _ _ _ _ _)
              have hgs := HG10.out.size
              rw [World.size_alloc, hcs] at hgs
              have hw9 := (show wq.heap.size ≤ W9.heap.size from HLE.out)
              have hqw := HQW.out.2
              have hset : ∀ r, r ≠ Wb.heap.size → (w10.setCell ⟨Wb.heap.size, 0, none⟩ (.slice An (j + 1) cn)).heap[r]? = w10.heap[r]? := fun r hr => heap_set_ne hr _ _
              have hkr : ∀ r, r < W9.heap.size → r ≠ Wb.heap.size → mv.ownBlock ≠ some r → (w10.setCell ⟨Wb.heap.size, 0, none⟩ (.slice An (j + 1) cn)).heap[r]? = (((((W9.setCell ⟨wo.heap.size, 1, none⟩ (.int .i64 10)).setCell ⟨wo.heap.size, 2, none⟩ (.int .i64 0)).setCell ⟨wo.heap.size, 3, none⟩ (.slice Aa ats.length ca)).setCell ⟨wo.heap.size, 4, none⟩ (.slice (some ⟨wq.heap.size, 0, none⟩) 3 3)).setCell ⟨wo.heap.size, 5, none⟩ (.slice none 0 0)).heap[r]? := fun r hr h1 h2 => by
                rw [hset r h1, HG10.out.block r (by rw [World.size_alloc, hcs]; omega) (fun e => h2 e.symm), alloc_lt _ _ (by rw [hcs]; exact hr)]
              refine HJ.out.more (x := x) (k := 9) (n := n) (ats := ats) (ks := ks) (bl := bl) htail.out ?_ ?_ ?_ ?_ (fun r hr h1 h2 => (hkr r (by omega) h1 h2).trans (HKEEP.out r hr)) ?_ (ownsRow_same HO10.out (fun q_ hq_ => hset q_ (by have := (HO10.out.lt q_ hq_).1; omega))) ?_ rfl ?_
              · exact HG10.out.os.trans HOS.out.1
              · exact HG10.out.tape.trans HOS.out.2.1
              · exact HG10.out.output.trans HOS.out.2.2
              · have : (w10.setCell ⟨Wb.heap.size, 0, none⟩ (.slice An (j + 1) cn)).heap.size = w10.heap.size := by simp [World.setCell]
                rw [this]; omega
              · rw [heap_set_self HX10.out 0 _]; rfl
              · rcases HA10.out with h | h
                · exact .inl h
                · exact .inr ⟨_, h, by rw [World.size_alloc, hcs]; omega⟩
              · unfold GRow; rw [if_pos ⟨rfl, HALL.out⟩]; refine ⟨Aa, ca, wq.heap.size, rfl, HA.out, hac, (hkr _ (by have := HW9.out; omega) (by have := HX3.out.2; omega) (fun e => by have := (HOWN.out _ e).2; omega)).trans ((set5_ne (by omega) _ _ _ _ _).trans HN9.out), by have := HX3.out.2; omega, fun e => ?_⟩; rcases HA10.out with h | h <;> rw [h] at e <;> first | (have := (HOWN.out _ e).2; omega) | (rw [World.size_alloc, hcs] at e; simp only [Option.some.injEq] at e; have := HW9.out; omega))
            clear r30 r3f
            go_roundw
            case rel => exact ⟨j + 1, (.slice An (j + 1) cn), _, by omega, by go_num, HNEW⟩
            case measure => simp [intOf]; omega
          · have hc : ¬ (k = 9 ∧ ats.all (fun a => !(a.v && a.n == x)) = true) := fun h => by have := HCOND.out.1 h; cases this
            have HNC := Lib.hid hc
            clear hc
            have HOS := Lib.hid (show wq.os = wo.os ∧ wq.tape = wo.tape ∧ wq.output = wo.output from ⟨HQW.out.1.os, HQW.out.1.tape, HQW.out.1.output⟩)
            have HKEEP := Lib.hid (fun (r : Nat) (hr : r < wo.heap.size) => HQW.out.1.block r hr)
            have HROW := Lib.hid (show wq.ownsRow (Wb.heap.size + 1) 54 6 mv j news from ownsRow_same HJ.out.row (fun q_ hq_ => HKEEP.out q_ (HJ.out.row.lt q_ hq_).2))
            have HRB := Lib.hid (show RowI (wq.alloc (.cells #[.int .i64 x, .int .i64 k, .int .i64 n, .slice Aa ats.length ca, .slice Ak ks.length ck, .slice Al bl.length cl] 54)) (some ⟨wq.heap.size, 0, none⟩) [.int .i64 x, .int .i64 k, .int .i64 n, .slice Aa ats.length ca, .slice Ak ks.length ck, .slice Al bl.length cl] from row_blk (by have h := World.alloc_heap_new wq (.cells #[.int .i64 x, .int .i64 k, .int .i64 n, .slice Aa ats.length ca, .slice Ak ks.length ck, .slice Al bl.length cl] 54); rwa [(show wq.heap.size = wq.heap.size from rfl)] at h))
            have HSZ := Lib.hid (show Wb.heap.size + 1 ≤ (wq.alloc (.cells #[.int .i64 x, .int .i64 k, .int .i64 n, .slice Aa ats.length ca, .slice Ak ks.length ck, .slice Al bl.length cl] 54)).heap.size from by rw [World.size_alloc, (show wq.heap.size = wq.heap.size from rfl)]; have h1 := HX3.out.2; have h2 := HQW.out.2; have h3 := (show wq.heap.size ≤ wq.heap.size from Nat.le_refl _); omega)
            have HX3c := Lib.hid (show (wq.alloc (.cells #[.int .i64 x, .int .i64 k, .int .i64 n, .slice Aa ats.length ca, .slice Ak ks.length ck, .slice Al bl.length cl] 54)).heap[Wb.heap.size]? = some (.cells #[mv, .bool t.last.v, .int .i64 t.last.n] 27 (0, 0)) from by rw [alloc_lt _ _ (by rw [(show wq.heap.size = wq.heap.size from rfl)]; have h1 := HX3.out.2; have h2 := HQW.out.2; have h3 := (show wq.heap.size ≤ wq.heap.size from Nat.le_refl _); omega), HKEEP.out _ HX3.out.2]; exact HJ.out.h3)
            have HOWN := Lib.hid (fun (q_ : Nat) (hq_ : mv.ownBlock = some q_) => HJ.out.row.lt q_ hq_)
            have hml : j + 1 ≤ maxLen := by unfold maxLen; omega
            have hmb : (j + 1) * 96 ≤ 140737488355328 := by omega
            go_wp2_with (at_builtin; refine wpList_append_row _ rfl _ _ 23 rfl (Wb.heap.size + 1) 54 i0 (.agg #[.int .i64 0, .int .i64 0, .int .i64 0, .slice none 0 0, .slice none 0 0, .slice none 0 0]) 6 96 Try.underlying23 hinf hz0 hz1 hz2 rfl (by decide) _ j news rfl (HROW.out.alloc _) (some ⟨wq.heap.size, 0, none⟩) 1 1 [.int .i64 x, .int .i64 k, .int .i64 n, .slice Aa ats.length ca, .slice Ak ks.length ck, .slice Al bl.length cl] rfl rfl HRB.out (six_one _ _ _ _ _ _ _ _ _ _ _ _) hml hmb HSZ.out ?_; intro v' w10 hown_ hgrow_ hat_; obtain ⟨An, cn, rfl⟩ := own_slice hown_; have HX10 := Lib.hid (show w10.heap[Wb.heap.size]? = some (.cells #[mv, .bool t.last.v, .int .i64 t.last.n] 27 (0, 0)) from (hgrow_.block _ (heap_lt HX3c.out) (fun e => by have := (HOWN.out _ e.symm).1; omega)).trans HX3c.out); have r30 : w10.cell? ⟨Wb.heap.size, 0, none⟩ = some mv := (by have h := HX10.out; simp [World.cell?, h]); have r3f : w10.frozen? ⟨Wb.heap.size, 0, none⟩ = false := (by have h := HX10.out; simp [World.frozen?, h]); have HO10 := Lib.hid hown_; have HG10 := Lib.hid hgrow_; have HA10 := Lib.hid hat_; clear hown_ hgrow_ hat_)
            have HNEW := Lib.hid (show GS BB W W1 Wb.heap.size t (j + 1) (.slice An (j + 1) cn) (news ++ [.int .i64 x, .int .i64 k, .int .i64 n, .slice Aa ats.length ca, .slice Ak ks.length ck, .slice Al bl.length cl]) (w10.setCell ⟨Wb.heap.size, 0, none⟩ (.slice An (j + 1) cn)) from by
              have hcs := (show wq.heap.size = wq.heap.size from rfl)
              have hgs := HG10.out.size
              rw [World.size_alloc, hcs] at hgs
              have hw9 := (show wq.heap.size ≤ wq.heap.size from Nat.le_refl _)
              have hqw := HQW.out.2
              have hset : ∀ r, r ≠ Wb.heap.size → (w10.setCell ⟨Wb.heap.size, 0, none⟩ (.slice An (j + 1) cn)).heap[r]? = w10.heap[r]? := fun r hr => heap_set_ne hr _ _
              have hkr : ∀ r, r < wq.heap.size → r ≠ Wb.heap.size → mv.ownBlock ≠ some r → (w10.setCell ⟨Wb.heap.size, 0, none⟩ (.slice An (j + 1) cn)).heap[r]? = wq.heap[r]? := fun r hr h1 h2 => by
                rw [hset r h1, HG10.out.block r (by rw [World.size_alloc, hcs]; omega) (fun e => h2 e.symm), alloc_lt _ _ (by rw [hcs]; exact hr)]
              refine HJ.out.more (x := x) (k := k) (n := n) (ats := ats) (ks := ks) (bl := bl) htail.out ?_ ?_ ?_ ?_ (fun r hr h1 h2 => (hkr r (by omega) h1 h2).trans (HKEEP.out r hr)) ?_ (ownsRow_same HO10.out (fun q_ hq_ => hset q_ (by have := (HO10.out.lt q_ hq_).1; omega))) ?_ rfl ?_
              · exact HG10.out.os.trans HOS.out.1
              · exact HG10.out.tape.trans HOS.out.2.1
              · exact HG10.out.output.trans HOS.out.2.2
              · have : (w10.setCell ⟨Wb.heap.size, 0, none⟩ (.slice An (j + 1) cn)).heap.size = w10.heap.size := by simp [World.setCell]
                rw [this]; omega
              · rw [heap_set_self HX10.out 0 _]; rfl
              · rcases HA10.out with h | h
                · exact .inl h
                · exact .inr ⟨_, h, by rw [World.size_alloc, hcs]; omega⟩
              · unfold GRow; rw [if_neg HNC.out]; exact HBC.out)
            clear r30 r3f
            go_roundw
            case rel => exact ⟨j + 1, (.slice An (j + 1) cn), _, by omega, by go_num, HNEW⟩
            case measure => simp [intOf]; omega
    · have hjT : j = T := by omega
      subst hjT
      have e2 : ¬ (j : Int) < (j : Int) := by omega
      have hx3 := HJ.out.h3
      rw [HLV.out, HLN.out] at hx3
      have c30 : wo.cell? ⟨Wb.heap.size, 0, none⟩ = some mv := by simp [World.cell?, hx3]
      have c31 : wo.cell? ⟨Wb.heap.size, 1, none⟩ = some (.bool lv) := by simp [World.cell?, hx3]
      have c32 : wo.cell? ⟨Wb.heap.size, 2, none⟩ = some (.int .i64 ln) := by simp [World.cell?, hx3]
      obtain ⟨A', c', rfl⟩ := own_slice HJ.out.row
      have hx2 := HX2.out wo HJ.out.bel
      have p0 : wo.cell? ⟨Wa.heap.size, 0, none⟩ = some (.slice none 0 0) := by simp [World.cell?, hx2]
      have p1 : wo.cell? ⟨Wa.heap.size, 1, none⟩ = some (.bool false) := by simp [World.cell?, hx2]
      have p2 : wo.cell? ⟨Wa.heap.size, 2, none⟩ = some (.int .i64 0) := by simp [World.cell?, hx2]
      have pf : ∀ i, wo.frozen? ⟨Wa.heap.size, i, none⟩ = false := fun i => by simp [World.frozen?, hx2]
      have HX2' := Lib.hid hx2
      clear hx3 hx2
      go_wp2_with fail
      obtain ⟨w9, hw9⟩ : ∃ w9, (((wo.setCell ⟨Wa.heap.size, 0, none⟩ (.slice A' j c')).setCell ⟨Wa.heap.size, 1, none⟩ (.bool lv)).setCell ⟨Wa.heap.size, 2, none⟩ (.int .i64 ln)) = w9 := ⟨_, rfl⟩
      have h9 : w9.heap[Wa.heap.size]? = some (.cells #[.slice A' j c', .bool lv, .int .i64 ln] 27 (0, 0)) := by rw [← hw9, heap_set_self (heap_set_self (heap_set_self HX2'.out 0 _) 1 _) 2 _]; rfl
      obtain ⟨A2, c2, he, hbody, hbel⟩ := HFIN.out j rfl _ _ wo w9 HJ.out (by rw [← hw9]; simp [World.setCell]) (by rw [← hw9]; rfl) (by rw [← hw9]; rfl) (by rw [← hw9]; rfl) (fun r hr => by rw [← hw9, heap_set_ne hr, heap_set_ne hr, heap_set_ne hr])
      simp only [Value.slice.injEq, true_and] at he
      obtain ⟨rfl, rfl⟩ := he
      have q0 : w9.cell? ⟨Wa.heap.size, 0, none⟩ = some (.slice A' j c') := by simp [World.cell?, h9]
      have q1 : w9.cell? ⟨Wa.heap.size, 1, none⟩ = some (.bool lv) := by simp [World.cell?, h9]
      have q2 : w9.cell? ⟨Wa.heap.size, 2, none⟩ = some (.int .i64 ln) := by simp [World.cell?, h9]
      rw [hw9]
      exact bodyPost_ret (v := .agg #[.slice A' j c', .bool lv, .int .i64 ln]) (by simp [results, Try.results14, go_sem, q0, q1, q2]) rfl ⟨_, _, _, rfl, hbody, hbel⟩
end Go.Proofs.Ytnobggabjpcbfaa

/-
  The plain laws: what camletref30.Right lets through clos.Right lets through; functions that are not called; groups of one.
-/
set_option linter.unusedVariables false
set_option linter.unusedSimpArgs false
namespace Go.Proofs.Ytnobggabjpcbfaa
open Go.RowKit

mutual
theorem deepA_dp : ∀ (t : Anf) (m : Nat) (n : Int), deepA t m n ≤ max n (dpN t)
  | .ret _, m, n => by simp [deepA, dpN]; omega
  | .bind _ _ _ _ _ bl r, m, n => by
    have h1 := deepL_dp bl m n
    have h2 := deepA_dp r m (deepL bl m n)
    simp only [deepA, dpN]
    omega
theorem deepL_dp : ∀ (l : List Anf) (m : Nat) (n : Int), deepL l m n ≤ max n (dpL l)
  | [], m, n => by simp [deepL, dpL]; omega
  | c :: cs, 0, n => by
    have h2 := deepL_dp cs 0 n
    simp only [deepL, dpL]
    omega
  | c :: cs, m + 1, n => by
    have h1 := deepA_dp c m 0
    have h2 := deepL_dp cs (m + 1) (max n (deepA c m 0 + 1))
    simp only [deepL, dpL]
    omega
end
theorem sizeB_tot (t : Anf) (most : Int) : sizeB t most ≤ totA t := by
  have h1 := (sizeA_le most t t.len).2
  have h2 := subA_len t
  unfold sizeB
  omega
theorem longB_no : ∀ (l : List Anf) (n : Int), (∀ a ∈ l, dpN a + 1 ≤ 400) → n + ((l.map totA).sum : Nat) ≤ 65536 → longB l n = false
  | [], n, _, _ => rfl
  | b :: bs, n, hd, hn => by
    simp only [List.map_cons, List.sum_cons] at hn
    have h1 := sizeB_tot b 65536
    have h2 := hd b (by simp)
    have h3 := deepA_dp b 400 0
    have h4 : deepB b 400 ≤ 400 := by unfold deepB; omega
    have h5 := longB_no bs (n + sizeB b 65536) (fun a ha => hd a (by simp [ha])) (by omega)
    unfold longB
    rw [if_neg (by omega)]
    exact h5
theorem dpF_ge : ∀ (l : List FFun) (m : Nat), m ≤ dpF l m ∧ ∀ g ∈ l, dpN g.body + 1 ≤ dpF l m
  | [], m => ⟨Nat.le_refl _, by simp⟩
  | g :: gs, m => by
    obtain ⟨h1, h2⟩ := dpF_ge gs (max m (dpN g.body + 1))
    simp only [dpF]
    refine ⟨by omega, fun x hx => ?_⟩
    rcases List.mem_cons.1 hx with rfl | hx
    · omega
    · exact h2 x hx
theorem totF_sum : ∀ (l : List FFun), ((l.map (·.body)).map totA).sum = totF l
  | [] => rfl
  | g :: gs => by simp only [List.map_cons, List.sum_cons, totF, totF_sum gs]
/-- **what the document's Right lets through, clos.Right does** -/
theorem rightC_of_r30 {p : FlatP} (h : r30 p = 0) : rightC p = 0 := by
  unfold r30 at h
  obtain ⟨h1, h⟩ := ite_zero h (fun _ => by decide)
  obtain ⟨h2, h⟩ := ite_zero h (fun _ => by decide)
  obtain ⟨h3, h⟩ := ite_zero h (fun h => h)
  have h4 := dpF_ge p.funs (dpN p.main + 1)
  have hl : longB (allB p) 0 = false := by
    refine longB_no _ _ (fun a ha => ?_) ?_
    · simp only [allB, List.mem_append, List.mem_map, List.mem_singleton] at ha
      rcases ha with ⟨g, hg, rfl⟩ | rfl
      · have := h4.2 g hg; omega
      · have := h4.1; omega
    · unfold allB
      rw [List.map_append, List.sum_append, totF_sum]
      simp only [List.map_cons, List.map_nil, List.sum_cons, List.sum_nil]
      omega
  unfold rightC
  have hl' : longB (p.funs.map (·.body) ++ [p.main]) 0 = false := hl
  rw [if_neg h1, hl', if_neg (by decide), if_neg h3]
  exact h
end Go.Proofs.Ytnobggabjpcbfaa

/-
  FevalGroup: the new program's functions, while they are put together.
-/
set_option linter.unusedVariables false
set_option linter.unusedSimpArgs false
namespace Go.Proofs.Ytnobggabjpcbfaa
open Go.RowKit

def grp (g : FFun) : FFun := ⟨g.env, g.param, grouped g.body⟩
/-- the functions so far -/
structure GL (B0 : Nat) (W0 : World) (X7 : Nat) (m0 m1 m2 : Value) (L : List FFun) (j : Nat) (mv : Value) (news : List Value) (wr : World) : Prop where
  bel : Below X7 W0 wr
  h7 : wr.heap[X7]? = some (.cells #[mv, m0, m1, m2] 29 (0, 0))
  row : wr.ownsRow (X7 + 1) 42 5 mv j news
  funs : FunsOn (fun k => k < B0 ∨ (X7 < k ∧ k < wr.heap.size ∧ mv.ownBlock ≠ some k)) wr ((L.take j).map grp) news
/-- behind the append of one more -/
structure AppR (V : World) (B0 X7 : Nat) (mv v' : Value) (j : Nat) (cells : List Value) (gb : Anf) (c : Array Value) (w : World) : Prop where
  os : w.os = V.os
  tape : w.tape = V.tape
  output : w.output = V.output
  size : V.heap.size ≤ w.heap.size
  keep : ∀ k, k < V.heap.size → mv.ownBlock ≠ some k → w.heap[k]? = V.heap[k]?
  row : w.ownsRow (X7 + 1) 42 5 v' (j + 1) cells
  own : v'.ownBlock = mv.ownBlock ∨ ∃ q, v'.ownBlock = some q ∧ V.heap.size ≤ q
  body : BodyOn (fun k => k < B0 ∨ (V.heap.size ≤ k ∧ k < w.heap.size ∧ v'.ownBlock ≠ some k)) w gb c
theorem AppR.of {V w w' : World} {B0 X7 : Nat} {mv v' : Value} {j : Nat} {cells : List Value} {gb : Anf} {c : Array Value} (hb : Below V.heap.size V w) (hbody : BodyOn (fun k => k < B0 ∨ (V.heap.size ≤ k ∧ k < w.heap.size)) w gb c) (hg : w.grownBy w' mv.ownBlock) (hrow : w'.ownsRow (X7 + 1) 42 5 v' (j + 1) cells)
    (ho : v'.ownBlock = mv.ownBlock ∨ v'.ownBlock = some w.heap.size) (hlt : ∀ q, mv.ownBlock = some q → q < V.heap.size ∧ B0 ≤ q) (hBV : B0 ≤ V.heap.size) : AppR V B0 X7 mv v' j cells gb c w' := by
  have hs := hb.size
  have hs2 := hg.size
  refine ⟨hg.os.trans hb.os, hg.tape.trans hb.tape, hg.output.trans hb.output, by omega, fun k hk hn => (hg.block k (by omega) (fun e => hn e.symm)).trans (hb.block k hk), hrow, ?_, ?_⟩
  · rcases ho with h | h
    · exact .inl h
    · exact .inr ⟨_, h, hs⟩
  · refine (hbody.kept (fun k hk => hg.block k (by omega) (fun e => ?_))).mono (fun k hk => ?_)
    · have := hlt k e.symm
      omega
    · rcases hk with hk | ⟨h1, h2⟩
      · exact .inl hk
      · refine .inr ⟨h1, by omega, fun e => ?_⟩
        rcases ho with h | h
        · rw [h] at e; have := (hlt k e).1; omega
        · rw [h] at e; cases e; omega
theorem GL.more {B0 : Nat} {W0 : World} {X7 : Nat} {m0 m1 m2 : Value} {L : List FFun} {j : Nat} {mv v' : Value} {news : List Value} {wo V w : World} (h : GL B0 W0 X7 m0 m1 m2 L j mv news wo) (hBX : B0 ≤ X7) (hV : Below wo.heap.size wo V) {g : FFun} (hg : L[j]? = some g) {c0 c1 c2 : Value}
    (ha : AppR V B0 X7 mv v' j (news ++ [.int .i64 g.env, .int .i64 g.param, c0, c1, c2]) (grouped g.body) #[c0, c1, c2] w) : GL B0 W0 X7 m0 m1 m2 L (j + 1) v' (news ++ [.int .i64 g.env, .int .i64 g.param, c0, c1, c2]) (w.setCell ⟨X7, 0, none⟩ v') := by
  have hx7 := heap_lt h.h7
  have hown : ∀ q, mv.ownBlock = some q → X7 < q ∧ q < wo.heap.size := fun q hq => by have := h.row.lt q hq; omega
  have hown' : ∀ q, v'.ownBlock = some q → X7 < q := fun q hq => by have := (ha.row.lt q hq).1; omega
  have hVs := hV.size
  have has := ha.size
  have hset : ∀ r, r ≠ X7 → (w.setCell ⟨X7, 0, none⟩ v').heap[r]? = w.heap[r]? := fun r hr => heap_set_ne hr _ _
  have hsz : (w.setCell ⟨X7, 0, none⟩ v').heap.size = w.heap.size := by simp [World.setCell]
  have h7w : w.heap[X7]? = some (.cells #[mv, m0, m1, m2] 29 (0, 0)) := (ha.keep X7 (by omega) (fun e => by have := (hown _ e).1; omega)).trans ((hV.block X7 hx7).trans h.h7)
  have hold : ∀ k, k < wo.heap.size → k ≠ X7 → mv.ownBlock ≠ some k → (w.setCell ⟨X7, 0, none⟩ v').heap[k]? = wo.heap[k]? := fun k hk h1 h2 => (hset k h1).trans ((ha.keep k (by omega) h2).trans (hV.block k hk))
  refine ⟨⟨ha.os.trans (hV.os.trans h.bel.os), ha.tape.trans (hV.tape.trans h.bel.tape), ha.output.trans (hV.output.trans h.bel.output), by rw [hsz]; have := h.bel.size; omega, fun k hk => (hold k (by omega) (by omega) (fun e => by have := (hown _ e).1; omega)).trans (h.bel.block k hk)⟩, by rw [heap_set_self h7w 0 _]; rfl, ownsRow_same ha.row (fun q hq => hset q (by have := hown' q hq; omega)), ?_⟩
  have ht : (L.take (j + 1)).map grp = (L.take j).map grp ++ [grp g] := by
    rw [List.take_add_one, hg, List.map_append]; rfl
  rw [ht]
  have h1 : FunsOn (fun k => k < B0 ∨ (X7 < k ∧ k < (w.setCell ⟨X7, 0, none⟩ v').heap.size ∧ v'.ownBlock ≠ some k)) (w.setCell ⟨X7, 0, none⟩ v') ((L.take j).map grp) news := by
    refine (h.funs.kept (fun k hk => hold k ?_ ?_ ?_)).mono (fun k hk => ?_)
    · omega
    · omega
    · rcases hk with hk | hk
      · exact fun e => by have := (hown k e).1; omega
      · exact hk.2.2
    · rcases hk with hk | ⟨k1, k2, k3⟩
      · exact .inl hk
      · refine .inr ⟨k1, by omega, fun e => ?_⟩
        rcases ha.own with ho | ⟨q, ho, hq⟩
        · rw [ho] at e; exact k3 e
        · rw [ho] at e; cases e; omega
  have h2 : BodyOn (fun k => k < B0 ∨ (X7 < k ∧ k < (w.setCell ⟨X7, 0, none⟩ v').heap.size ∧ v'.ownBlock ≠ some k)) (w.setCell ⟨X7, 0, none⟩ v') (grouped g.body) #[c0, c1, c2] := by
    refine (ha.body.kept (fun k hk => hset k (by omega))).mono (fun k hk => ?_)
    rcases hk with hk | ⟨k1, k2, k3⟩
    · exact .inl hk
    · exact .inr ⟨by omega, by omega, k3⟩
  exact h1.snoc (g := grp g) h2
/-- the whole program -/
theorem GL.done {B0 : Nat} {W0 : World} {X7 : Nat} {m0 m1 m2 : Value} {L : List FFun} {mv : Value} {news : List Value} {wr : World} (h : GL B0 W0 X7 m0 m1 m2 L L.length mv news wr) {main : Anf} (hm : BodyOn (· < X7) W0 main #[m0, m1, m2]) (hBX : B0 ≤ X7) (hl : L.length * 56 ≤ 140737488351232) :
    ∃ A c, mv = .slice A L.length c ∧ FlatIn wr.heap.size wr ⟨L.map grp, main⟩ #[.slice A L.length c, m0, m1, m2] := by
  have hx7 := heap_lt h.h7
  have hf := h.funs
  rw [List.take_length] at hf
  have hlen : (L.map grp).length = L.length := by simp
  obtain ⟨A, c, e1, e2⟩ := flat_of_row (L := L.map grp) (main := main) (own_size_ hlen rfl h.row) (hf.row (fun k hk => by omega)) ((hm.kept (fun k hk => h.bel.block k hk)).in_ (fun k hk => by omega)) (by rw [hlen]; exact hl)
  rw [hlen] at e1 e2
  exact ⟨A, c, e1, e2⟩
/-! ### sizes -/
theorem few_parts {p : FlatP} {inp : List Int} (h : fewF p inp = true) : szFuns p.funs + szA p.main ≤ 700 := by
  simp only [fewF, decide_eq_true_eq] at h
  obtain ⟨h, _⟩ := h
  have h1 := fewN_all p.funs _ h
  have h2 := fewN_ge p.funs (nodesA p.main 700 1)
  have h3 := nodesA_all p.main 700 1 (by omega)
  have h4 := szA_parts p.main
  omega
theorem len_szA : ∀ t : Anf, t.len ≤ szA t
  | .ret _ => Nat.le_refl _
  | .bind _ _ _ _ _ _ r => by
    have := len_szA r
    simp only [Anf.len, szA]
    omega
theorem szA_grouped : ∀ t : Anf, szA (grouped t) ≤ 4 * szA t
  | .ret _ => by simp [grouped, szA]
  | .bind _ _ _ _ _ _ r => by
    have := szA_grouped r
    unfold grouped
    split <;> simp only [szA, szL, List.length_cons, List.length_nil] <;> omega
theorem szFuns_grouped : ∀ l : List FFun, szFuns (l.map grp) ≤ 4 * szFuns l
  | [] => Nat.le_refl _
  | g :: gs => by
    have h1 := szA_grouped g.body
    have h2 := szFuns_grouped gs
    simp only [List.map_cons, szFuns, grp]
    omega
theorem rngA_grouped : ∀ {t : Anf}, rngA t → rngA (grouped t)
  | .ret _, h => h
  | .bind x k n ats ks bl r, h => by
    unfold rngA at h
    have h2 := rngA_grouped h.2.2
    unfold grouped
    split
    · unfold rngA; exact ⟨h.1, by unfold rngL; trivial, h2⟩
    · unfold rngA; exact ⟨h.1, h.2.1, h2⟩
theorem small_grouped {p : FlatP} {inp : List Int} (h : fewF p inp = true) (hr : (∀ g ∈ p.funs, rngA g.body) ∧ rngA p.main) : SmallF ⟨p.funs.map grp, grouped p.main⟩ := by
  have h1 := few_parts h
  have h2 := szFuns_grouped p.funs
  have h3 := szA_grouped p.main
  refine ⟨by show szFuns (p.funs.map grp) + szA (grouped p.main) ≤ _; omega, fun g hg => ?_, rngA_grouped hr.2⟩
  obtain ⟨g', hg', rfl⟩ := List.mem_map.1 hg
  exact rngA_grouped (hr.1 g' hg')
/-- **FevalGroup, plain** -/
theorem group_law (p : FlatP) (inp : List Int) (f : Int) (h1 : r30 p = 0) (h2 : r30 ⟨p.funs.map grp, grouped p.main⟩ = 0) : sameE (runE p inp f) (runE ⟨p.funs.map grp, grouped p.main⟩ inp f) = true ∧ (runE p inp f).steps = (runE ⟨p.funs.map grp, grouped p.main⟩ inp f).steps := by
  have c1 := rightC_of_r30 h1
  have c2 := rightC_of_r30 h2
  have he : runE ⟨p.funs.map grp, grouped p.main⟩ inp f = runE p inp f := by
    unfold runE
    rw [if_pos c1, if_pos c2]
    unfold runF
    exact congrArg (endF (fuelOf f)) (group_ends (funs := p.funs) (t := p.main) (inp.take 4096) (fuelOf f))
  rw [he]
  exact ⟨by simp [sameE], rfl⟩
end Go.Proofs.Ytnobggabjpcbfaa
