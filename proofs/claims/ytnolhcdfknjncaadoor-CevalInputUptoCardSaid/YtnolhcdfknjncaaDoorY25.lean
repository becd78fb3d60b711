/-
  2 texts of this seat in one: V25 V26.
-/
import Derived.Test.YtnolhcdfknjncaaDoorY18
import Derived.Test.YtnolhcdfknjncaaDoorQR
import Derived.Test.YtnolhcdfknjncaaDoorQF
import Derived.Test.YtnolhcdfknjncaaDoorY24
/-
  The document's run: functions that know one another: what lies in memory while they are made.
-/
set_option linter.unusedVariables false
set_option linter.unusedSimpArgs false
namespace Go.Proofs.YtnolhcdfknjncaaDoor
open Go.RowKit

section
variable {X Y : Nat → Prop} {B mb cb : Nat} {inp : List Int} {fuel : FL} {s s1 : St} {cut stk rai : Bool} {x0 x1 x2 : Value} {W W' w w' w1 w3 : World} {o : Out} {base n0 j : Nat} {ks : List Int} {pv : Value} {bs : List Nat}
/-- what is known behind some links -/
def upV (pv : Value) (bs : List Nat) : Nat → Value
  | 0 => pv
  | k + 1 => .pointer (some ⟨bs[k]?.getD 0, 0, none⟩)
abbrev linkO (x a b : Int) (up : Value) : Obj := .cells #[.int .i64 x, .int .i64 a, .int .i64 b, .slice none 0 0, up] 111 (0, 0)
/-- the links that were made; so many of them know their functions -/
structure Links (base : Nat) (ks : List Int) (pv : Value) (n0 j : Nat) (bs : List Nat) (w : World) : Prop where
  at_ : ∀ i (h : i < bs.length), base ≤ bs[i] ∧ w.heap[bs[i]]? = some (linkO (nth ks (2 * i)) (if i < j then 3 else 0) (if i < j then ((n0 + i : Nat) : Int) else 0) (upV pv bs i))
  nd : ∀ i i' (h : i < bs.length) (h' : i' < bs.length), bs[i] = bs[i'] → i = i'
theorem upV_app {b : Nat} {i : Nat} (h : i ≤ bs.length) : upV pv (bs ++ [b]) i = upV pv bs i := by
  cases i with
  | zero => rfl
  | succ i => simp only [upV]; rw [List.getElem?_append_left (by omega)]
/-- one link more -/
theorem Links.snoc (h : Links base ks pv n0 0 bs w) (hw : ∀ i (hi : i < bs.length), w'.heap[bs[i]]? = w.heap[bs[i]]?) {b : Nat} (hb : base ≤ b) (hnew : ∀ i (hi : i < bs.length), bs[i] ≠ b) (hbo : w'.heap[b]? = some (linkO (nth ks (2 * bs.length)) 0 0 (upV pv bs bs.length))) : Links base ks pv n0 0 (bs ++ [b]) w' := by
  refine ⟨fun i hi => ?_, fun i i' hi hi' e => ?_⟩
  · by_cases hl : i < bs.length
    · rw [List.getElem_append_left hl, upV_app (by omega)]
      exact ⟨(h.at_ i hl).1, (hw i hl).trans (h.at_ i hl).2⟩
    · have : i = bs.length := by simp at hi; omega
      subst this
      rw [upV_app (Nat.le_refl _)]
      simp only [List.getElem_concat_length]
      exact ⟨hb, by simpa using hbo⟩
  · by_cases hl : i < bs.length
    · rw [List.getElem_append_left hl] at e
      by_cases hl' : i' < bs.length
      · rw [List.getElem_append_left hl'] at e
        exact h.nd i i' hl hl' e
      · have : i' = bs.length := by simp at hi'; omega
        subst this
        simp only [List.getElem_concat_length] at e
        exact absurd e (hnew i hl)
    · have : i = bs.length := by simp at hi; omega
      subst this
      by_cases hl' : i' < bs.length
      · rw [List.getElem_append_left hl'] at e
        simp only [List.getElem_concat_length] at e
        exact absurd e.symm (hnew i' hl')
      · simp at hi'; omega
/-- one link knows its function -/
theorem Links.set_ (h : Links base ks pv n0 j bs w) (hj : j < bs.length) (hw : ∀ i (hi : i < bs.length), w'.heap[bs[i]]? = w.heap[bs[i]]?) :
    Links base ks pv n0 (j + 1) bs (set3 w' bs[j] 1 (.int .i64 3) (.int .i64 ((n0 + j : Nat) : Int)) (.slice none 0 0)) := by
  refine ⟨fun i hi => ⟨(h.at_ i hi).1, ?_⟩, h.nd⟩
  have hi' := (hw i hi).trans (h.at_ i hi).2
  by_cases hij : i = j
  · subst hij
    rw [if_neg (Nat.lt_irrefl i), if_neg (Nat.lt_irrefl i)] at hi'
    rw [if_pos (Nat.lt_succ_self i), if_pos (Nat.lt_succ_self i)]
    unfold set3
    rw [heap_set_self (heap_set_self (heap_set_self hi' 1 _) (1 + 1) _) (1 + 2) _]
    rfl
  · have hne : bs[i] ≠ bs[j] := fun e => hij (h.nd i j hi hj e)
    unfold set3
    rw [heap_set_ne hne, heap_set_ne hne, heap_set_ne hne, hi']
    by_cases hl : i < j
    · rw [if_pos hl, if_pos hl, if_pos (by omega), if_pos (by omega)]
    · rw [if_neg hl, if_neg hl, if_neg (by omega), if_neg (by omega)]
/-- what is known behind links that know their functions -/
theorem Links.env {nf nc : Nat} {e : PEnv} {q : Nat} (h : Links base ks pv n0 q bs w) (hq : bs.length = q) (hks : ks.length = 2 * q) (he : EIn X nf nc w e pv) (hX : ∀ b ∈ bs, ¬ X b) (hnf : n0 + q ≤ nf) : ∀ k, k ≤ q → EIn X nf nc w (fixEnv (ks.take (2 * k)) n0 e) (upV pv bs k) := by
  intro k
  induction k with
  | zero => intro _; simpa [fixEnv, upV] using he
  | succ k ih =>
    intro hk
    have hkb : k < bs.length := by omega
    rw [fixEnv_take ks n0 e (by omega)]
    have hb := (h.at_ k hkb).2
    rw [if_pos (by omega), if_pos (by omega)] at hb
    have e1 : upV pv bs (k + 1) = .pointer (some ⟨bs[k], 0, none⟩) := by simp [upV, hkb]
    rw [e1]
    refine .cons _ _ _ bs[k] (.int .i64 3) (.int .i64 ((n0 + k : Nat) : Int)) (.slice none 0 0) (upV pv bs k) (hX _ (List.getElem_mem hkb)) ?_ ?_ ?_ ?_ ?_ (.fn _ (by omega)) (ih (by omega))
    all_goals simp [World.cell?, hb]

/-- the functions' cells -/
def newF (ks : List Int) (G0 G1 G2 G3 : Nat → Value) (P : Value) (i : Nat) : List Value := [.int .i64 (nth ks (2 * i + 1)), G0 i, G1 i, G2 i, G3 i, P]
def newsF (ks : List Int) (G0 G1 G2 G3 : Nat → Value) (P : Value) : Nat → List Value
  | 0 => []
  | j + 1 => newsF ks G0 G1 G2 G3 P j ++ newF ks G0 G1 G2 G3 P j
theorem newsF_len (ks : List Int) (G0 G1 G2 G3 : Nat → Value) (P : Value) (j : Nat) : (newsF ks G0 G1 G2 G3 P j).length = j * 6 := by
  induction j with
  | zero => rfl
  | succ j ih => simp [newsF, newF, ih, Nat.add_mul]
theorem newsF_vals {nf nc : Nat} {cs : List Core} {Ac : Option Addr} {b o : Nat} {G0 G1 G2 G3 : Nat → Value} {P : Value} {env : PEnv} {q : Nat} (hks : ks.length = 2 * q) (hcs : q ≤ cs.length) (hK : KidsIn B w Ac cs b o G0 G1 G2 G3) (hs : ∀ c ∈ cs, SmallT c) (he : EIn X nf nc w env P) :
    ∀ j, j ≤ q → RVals (PF6 B X nf nc w) 6 ((fixFns env ks cs).take j) (newsF ks G0 G1 G2 G3 P j) := by
  intro j
  induction j with
  | zero => intro _; simpa [newsF] using RVals.nil
  | succ j ih =>
    intro hj
    have hg := fixFns_get env q ks cs hks hcs j (by omega)
    rw [List.take_add_one, hg]
    exact (ih (by omega)).app (.single ⟨_, _, _, _, _, rfl, hK.hsub j (by omega), hs _ (List.getElem_mem _), he⟩ rfl)
end
end Go.Proofs.YtnolhcdfknjncaaDoor

/-
  The document's run: functions that know one another: the second loop in memory, and its end.
-/
set_option linter.unusedVariables false
set_option linter.unusedSimpArgs false
namespace Go.Proofs.YtnolhcdfknjncaaDoor
open Go.RowKit

section
variable {X Y : Nat → Prop} {B mb cb : Nat} {inp : List Int} {fuel : FL} {s s1 : St} {cut stk rai : Bool} {x0 x1 x2 : Value} {W W' w w' w1 w3 : World} {o : Out} {base n0 j q : Nat} {ks : List Int} {pv : Value} {bs : List Nat} {xs : List Value} {G0 G1 G2 G3 : Nat → Value} {P own : Value}
structure Fix2 (W : World) (mb cb : Nat) (ks : List Int) (pv : Value) (n0 : Nat) (bs : List Nat) (xs : List Value) (G0 G1 G2 G3 : Nat → Value) (P own : Value) (core : Obj) (j : Nat) (w : World) : Prop where
  old : W.grownBy w (some cb)
  row : ∃ A c, w.heap[cb]? = some (.cells #[.pointer (some ⟨mb, 0, none⟩), .slice A (n0 + j) c] 61 (0, 0)) ∧ n0 + j ≤ c ∧ RowOf w A (xs ++ newsF ks G0 G1 G2 G3 P j) ∧ (∀ ad, A = some ad → xs ++ newsF ks G0 G1 G2 G3 P j = [] ∨ ∀ b ∈ bs, ad.block ≠ b) ∧ (0 < j → ∃ g, A = some ⟨g, 0, none⟩ ∧ W.heap.size ≤ g)
  links : Links (W.heap.size + 1) ks pv n0 j bs w
  own_ : w.ownsRow (W.heap.size + 1) 101 1 own bs.length (bs.map (fun b => Value.pointer (some ⟨b, 0, none⟩)))
  box : w.heap[W.heap.size]? = some core
theorem add_block (ad : Addr) (j : Nat) : (ad.add j).block = ad.block := by unfold Addr.add; split <;> rfl
/-- an own row and a link are not one block -/
theorem link_ne {i : Nat} {g cap : Nat} (hl : Links base ks pv n0 j bs w) (hi : i < bs.length) {T : TypeId} (hT : T ≠ 111) {cs : Array Value} {fr : Nat × Nat} (hg : w.heap[g]? = some (.cells cs T fr)) : bs[i] ≠ g := by
  intro e
  have h1 := (hl.at_ i hi).2
  rw [e, hg] at h1
  simp only [Option.some.injEq, Obj.cells.injEq] at h1
  exact hT h1.2.1
theorem grown_set {row : Nat} (h : W.grownBy w (some row)) {b : Nat} (hb : W.heap.size ≤ b) (i : Nat) (x : Value) : W.grownBy (w.setCell ⟨b, i, none⟩ x) (some row) :=
  ⟨h.os, h.tape, h.output, by simpa [World.setCell] using h.size, fun k hk hne => (heap_set_ne (by omega) _ _).trans (h.block k hk hne)⟩
theorem grown_trans {row : Nat} (h : W.grownBy w (some row)) (k : w.grownBy w1 (some row)) : W.grownBy w1 (some row) :=
  ⟨k.os.trans h.os, k.tape.trans h.tape, k.output.trans h.output, Nat.le_trans h.size k.size, fun i hi hne => (k.block i (Nat.lt_of_lt_of_le hi h.size) hne).trans (h.block i hi hne)⟩
/-- one function more -/
theorem Fix2.next {core : Obj} (h : Fix2 W mb cb ks pv n0 bs xs G0 G1 G2 G3 P own core j w) (hcb : cb < W.heap.size) (hj : j < bs.length) {w0 : World} (hw0 : w0.heap = w.heap) (ho0 : w0.os = w.os ∧ w0.tape = w.tape ∧ w0.output = w.output) (hr : RawFn mb cb (n0 + j) (xs ++ newsF ks G0 G1 G2 G3 P j) (newF ks G0 G1 G2 G3 P j) w0 w1) :
    Fix2 W mb cb ks pv n0 bs xs G0 G1 G2 G3 P own core (j + 1) (set3 w1 bs[j] 1 (.int .i64 3) (.int .i64 ((n0 + j : Nat) : Int)) (.slice none 0 0)) := by
  obtain ⟨g, cap, hg, hcap, hc1, hcell, hgr⟩ := hr
  have hgr' : w.grownBy w1 (some cb) := ⟨hgr.os.trans ho0.1, hgr.tape.trans ho0.2.1, hgr.output.trans ho0.2.2, by have := hgr.size; rw [hw0] at this; exact this, fun k hk hne => by rw [← hw0]; exact hgr.block k (by rw [hw0]; exact hk) hne⟩
  rw [hw0] at hg
  have hlt : ∀ i (hi : i < bs.length), bs[i] < w.heap.size := fun i hi => (Array.getElem?_eq_some_iff.1 (h.links.at_ i hi).2).1
  have hge : ∀ i (hi : i < bs.length), W.heap.size + 1 ≤ bs[i] := fun i hi => (h.links.at_ i hi).1
  have hlj := hlt j hj
  have hgj := hge j hj
  have hbs1 : ∀ i (hi : i < bs.length), w1.heap[bs[i]]? = w.heap[bs[i]]? := fun i hi => hgr'.block _ (hlt i hi) (fun e => by have := hge i hi; simp only [Option.some.injEq] at e; omega)
  have hsz := h.old.size
  refine ⟨?_, ⟨some ⟨g, 0, none⟩, cap, ?_, by omega, .inr ⟨_, rfl, fun i u hi => ?_⟩, fun ad ha => .inr (fun b hb => ?_), fun _ => ⟨g, rfl, by omega⟩⟩, h.links.set_ hj hbs1, ?_, ?_⟩
  · exact grown_set (grown_set (grown_set (grown_trans h.old hgr') (by omega) _ _) (by omega) _ _) (by omega) _ _
  · unfold set3
    rw [heap_set_ne (by omega), heap_set_ne (by omega), heap_set_ne (by omega), hc1]
    rfl
  · rw [add_plain]
    unfold set3
    rw [World.cell?_setCell_far _ _ (⟨g, 0 + i, none⟩ : Addr) _ (show bs[j] ≠ g by omega), World.cell?_setCell_far _ _ (⟨g, 0 + i, none⟩ : Addr) _ (show bs[j] ≠ g by omega), World.cell?_setCell_far _ _ (⟨g, 0 + i, none⟩ : Addr) _ (show bs[j] ≠ g by omega)]
    refine hcell i u ?_
    rw [List.append_assoc]
    exact hi
  · simp only [Option.some.injEq] at ha
    subst ha
    obtain ⟨i, hi, rfl⟩ := List.getElem_of_mem hb
    have := hlt i hi
    show g ≠ bs[i]
    omega
  · refine ⟨h.own_.1, h.own_.2.imp id ?_⟩
    rintro ⟨go, capo, cur, rfl, hgo, hco, r1, r2, r3, r4⟩
    have hne := link_ne (g := go) (cap := 0) h.links hj (by decide) hco
    refine ⟨go, capo, cur, rfl, hgo, ?_, r1, r2, r3, r4⟩
    unfold set3
    rw [heap_set_ne (Ne.symm hne), heap_set_ne (Ne.symm hne), heap_set_ne (Ne.symm hne)]
    exact (hgr'.block go (Array.getElem?_eq_some_iff.1 hco).1 (fun e => by simp only [Option.some.injEq] at e; omega)).trans hco
  · unfold set3
    rw [heap_set_ne (by omega), heap_set_ne (by omega), heap_set_ne (by omega)]
    exact (hgr'.block _ (by omega) (fun e => by simp only [Option.some.injEq] at e; omega)).trans h.box
/-- the end of it -/
theorem Fix2.done {core : Obj} {t : Core} {Ac : Option Addr} {b oo cf : Nat} {Af : Option Addr} (hR : RGo X B mb cb inp fuel s W) (hX : ∀ k, X k → k < W.heap.size) (hlim : fuel.lim < fuel.f) (hks : ks.length = 2 * q) (hq : 0 < q) (hq5 : q ≤ 500) {cs : List Core} (hcs : q ≤ cs.length) (hbs : bs.length = q)
    (hK : KidsIn B W Ac cs b oo G0 G1 G2 G3) (hs : ∀ c ∈ cs, SmallT c) {e : PEnv} (he : EIn X s.fns.length s.cells.length W e pv) (hxs : RVals (PF6 B X s.fns.length s.cells.length W) 6 s.fns xs)
    (h : Fix2 W mb cb ks pv s.fns.length bs xs G0 G1 G2 G3 (upV pv bs q) own core q w) :
    Stp B mb cb W w ∧ RGo X B mb cb inp fuel.up { s with fns := s.fns ++ fixFns (fixEnv ks s.fns.length e) ks cs } w ∧ EIn X (s.fns ++ fixFns (fixEnv ks s.fns.length e) ks cs).length s.cells.length w (fixEnv ks s.fns.length e) (upV pv bs q) := by
  obtain ⟨l1, l2⟩ := own_lt hR
  have hBW := hR.hBW
  have hcbB := hR.hcb
  have hkp : KpX (Own2 mb cb) W w := ⟨h.old.size, fun k o' hk _ hx => by
    have hlt := (Array.getElem?_eq_some_iff.1 hk).1
    exact (h.old.block k hlt (fun e => hx (.inr (by simpa using e)))).trans hk⟩
  have hbel : Below B W w := ⟨h.old.os, h.old.tape, h.old.output, h.old.size, fun k hk => h.old.block k (by omega) (fun e => by simp only [Option.some.injEq] at e; omega)⟩
  have hst : Stp B mb cb W w := ⟨hbel, hkp⟩
  have hkx : KpX X W w := hkp.mono hR.hX
  have hfl := fixFns_length (fixEnv ks s.fns.length e) q ks cs hks hcs
  have hlen : (s.fns ++ fixFns (fixEnv ks s.fns.length e) ks cs).length = s.fns.length + q := by simp [hfl]
  have henv : EIn X (s.fns.length + q) s.cells.length w (fixEnv ks s.fns.length e) (upV pv bs q) := by
    have := h.links.env (X := X) (nf := s.fns.length + q) (nc := s.cells.length) hbs hks (he.step hkx (by omega) (Nat.le_refl _)) (fun b hb hx => by
      obtain ⟨i, hi, rfl⟩ := List.getElem_of_mem hb
      have := (h.links.at_ i hi).1
      have := hX _ hx
      omega) (Nat.le_refl _) q (Nat.le_refl _)
    rwa [List.take_of_length_le (by omega)] at this
  refine ⟨hst, ?_, by rw [hlen]; exact henv⟩
  obtain ⟨A, c, hc, hcap, hrow, -, hA⟩ := h.row
  obtain ⟨g, rfl, hg⟩ := hA hq
  obtain ⟨Ai, ci, Ao, co, Ac', cc, m1, m2, m3, m4, m5, m6, m7⟩ := hR.m
  have hu := hR.lim_ (l := fuel.lim + 1) (by omega) (by omega)
  have hfB := hR.fnsB
  refine { hu with
    m := ⟨Ai, ci, Ao, co, Ac', cc, ?_, m2.below hbel, m3, m4, m5, m6.step hkx, m7.step hkx (by simp) (Nat.le_refl _)⟩
    c := ⟨some ⟨g, 0, none⟩, c, by rw [hlen]; exact hc, by rw [hlen]; exact hcap, ?_⟩
    fnsB := by rw [hlen]; show s.fns.length + q + 1000 * s.left ≤ 1000 * (fuel.lim + 1); omega }
  · exact (h.old.block mb l1 (fun e => by simp only [Option.some.injEq] at e; exact hR.hne e)).trans m1
  · have hv := newsF_vals (X := X) (nf := s.fns.length + q) (nc := s.cells.length) (P := upV pv bs q) hks hcs (hK.below hbel) hs henv q (Nat.le_refl _)
    rw [List.take_of_length_le (by omega)] at hv
    have hv2 : RVals (PF6 B X (s.fns.length + q) s.cells.length w) 6 (s.fns ++ fixFns (fixEnv ks s.fns.length e) ks cs) (xs ++ newsF ks G0 G1 G2 G3 (upV pv bs q) q) := (hxs.mono fun a c h => h.step hkx hbel (by omega) (Nat.le_refl _)).app hv
    rw [← hlen] at hv2
    refine FRow.mk_ hv2 (fun hx => by have := hX g hx; omega) (fun j u hj => ?_)
    rcases hrow with ⟨h0, _⟩ | ⟨ad, ha, hcc⟩
    · cases h0
    · simp only [Option.some.injEq] at ha
      subst ha
      have := hcc j u hj
      rwa [add_plain] at this
end
end Go.Proofs.YtnolhcdfknjncaaDoor
