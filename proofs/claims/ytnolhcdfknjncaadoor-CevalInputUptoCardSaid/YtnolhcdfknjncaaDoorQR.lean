/-
  3 texts of this seat in one: V21 V22 V23.
-/
import Derived.Test.YtnolhcdfknjncaaDoorQV
import Derived.Test.YtnolhcdfknjncaaDoorY18
import Derived.Test.YtnolhcdfknjncaaDoorQE
/-
  The document's run: a term's contract; a frame's own row beside a run.
-/
set_option linter.unusedVariables false
set_option linter.unusedSimpArgs false
namespace Go.Proofs.YtnolhcdfknjncaaDoor
open Go.RowKit

section
variable {X Y Y' : Nat → Prop} {B mb cb n : Nat} {inp : List Int} {fuel : FL} {s s1 : St} {cut stk rai : Bool} {x0 x1 x2 : Value} {W W' W1 W2 W3 : World} {o : Out}
/-- a term is evaluated, so deep -/
def RTermOk (B mb cb : Nat) (inp : List Int) (n : Nat) : Prop :=
  ∀ (X : Nat → Prop) (fuel : FL) (s : St) (W : World) (t : Core) (g0 g1 g2 g3 : Value) (e : PEnv) (pv : Value), RGo X B mb cb inp fuel s W → (∀ k, X k → k < W.heap.size) → CoreIn B W t #[g0, g1, g2, g3] → SmallT t → EIn X s.fns.length s.cells.length W e pv → s.left < n →
    Calls Tryd.prog 28 #[.pointer (some ⟨cb, 0, none⟩), .agg #[g0, g1, g2, g3], pv] W (ROut X B mb cb inp fuel s (ev inp n t e s) W)

/-- a row turned, and blocks that are new -/
structure Grew (Y Y' : Nat → Prop) (B mb cb : Nat) (W1 W3 : World) : Prop where
  bel : Below B W1 W3
  m : mb < W1.heap.size → W3.heap[mb]? = W1.heap[mb]?
  c : cb < W1.heap.size → W3.heap[cb]? = W1.heap[cb]?
  kp : KpX Y W1 W3
  sub : ∀ k, Y' k → Y k ∨ W1.heap.size ≤ k
  own : ∀ k, Own2 mb cb k → Y' k
theorem Grew.of {row : Option Nat} (hB : B ≤ W1.heap.size) (hb : Below W1.heap.size W1 W2) (hg : W2.grownBy W3 row) (hrow : ∀ b, row = some b → Y b ∧ b ≠ mb ∧ b ≠ cb ∧ B ≤ b) (hs : ∀ k, Y' k → Y k ∨ W1.heap.size ≤ k) (ho : ∀ k, Own2 mb cb k → Y' k) : Grew Y Y' B mb cb W1 W3 where
  bel := by
    have h1 := hb.mono hB
    exact ⟨hg.os.trans hb.os, hg.tape.trans hb.tape, hg.output.trans hb.output, Nat.le_trans hb.size hg.size, fun i hi =>
      (hg.block i (by have := hb.size; omega) (fun e => by have := (hrow i e.symm).2.2.2; omega)).trans (hb.block i (by omega))⟩
  m := fun hm => (hg.block mb (Nat.lt_of_lt_of_le hm hb.size) (fun e => (hrow mb e.symm).2.1 rfl)).trans (hb.block mb hm)
  c := fun hc => (hg.block cb (Nat.lt_of_lt_of_le hc hb.size) (fun e => (hrow cb e.symm).2.2.1 rfl)).trans (hb.block cb hc)
  kp := ⟨Nat.le_trans hb.size hg.size, fun k o hk _ hx => by
    have hlt := (Array.getElem?_eq_some_iff.1 hk).1
    exact (hg.block k (Nat.lt_of_lt_of_le hlt hb.size) (fun e => hx (hrow k e.symm).1)).trans ((hb.block k hlt).trans hk)⟩
  sub := hs
  own := ho
theorem Grew.both (h : Grew Y Y' B mb cb W1 W3) : KpX (fun k => Y k ∨ Y' k) W1 W3 := h.kp.mono (fun k hk => .inl hk)
theorem RIn.grew (h : RIn Y B mb cb inp fuel s cut stk rai x0 x1 x2 W1) (hg : Grew Y Y' B mb cb W1 W3) : RIn Y' B mb cb inp fuel s cut stk rai x0 x1 x2 W3 := by
  obtain ⟨l1, l2⟩ := own_lt h
  have h1 : RIn (fun k => Y k ∨ Y' k) B mb cb inp fuel s cut stk rai x0 x1 x2 W1 := h.more (fun k hk => hk.elim .inl (hg.sub k)) (fun k hk => .inl (h.hX k hk))
  have h3 : RIn (fun k => Y k ∨ Y' k) B mb cb inp fuel s cut stk rai x0 x1 x2 W3 := by
    obtain ⟨Ai, ci, Ao, co, Ac, cc, m1, m2, m3, m4, m5, m6, m7⟩ := h1.m
    obtain ⟨Af, cf, k1, k2, k3⟩ := h1.c
    exact { h1 with
      m := ⟨Ai, ci, Ao, co, Ac, cc, (hg.m l1).trans m1, m2.below hg.bel, m3, m4, m5, m6.step hg.both, m7.step hg.both (Nat.le_refl _) (Nat.le_refl _)⟩
      c := ⟨Af, cf, (hg.c l2).trans k1, k2, k3.step hg.both hg.bel (Nat.le_refl _) (Nat.le_refl _)⟩ }
  exact h3.more (fun k hk => .inl (.inr hk)) hg.own
theorem VIn.grew {nf nc : Nat} {v : PV} {a b c : Value} (h : VIn Y nf nc W1 v a b c) (hg : Grew Y Y' B mb cb W1 W3) : VIn Y' nf nc W3 v a b c := by
  have h1 : VIn (fun k => Y k ∨ Y' k) nf nc W1 v a b c := h.more (fun k hk => hk.elim .inl (hg.sub k))
  exact (h1.step hg.both (Nat.le_refl _) (Nat.le_refl _)).more (fun k hk => .inl (.inr hk))
theorem EIn.grew {nf nc : Nat} {e : PEnv} {p : Value} (h : EIn Y nf nc W1 e p) (hg : Grew Y Y' B mb cb W1 W3) : EIn Y' nf nc W3 e p := by
  have h1 : EIn (fun k => Y k ∨ Y' k) nf nc W1 e p := h.more (fun k hk => hk.elim .inl (hg.sub k))
  exact (h1.step hg.both (Nat.le_refl _) (Nat.le_refl _)).more (fun k hk => .inl (.inr hk))
theorem OutIn.grew {a b c : Value} (h : OutIn Y B mb cb inp fuel W1 a b c o) (hg : Grew Y Y' B mb cb W1 W3) : OutIn Y' B mb cb inp fuel W3 a b c o := by
  obtain ⟨r, s⟩ := o
  cases r with
  | val v => exact ⟨h.1.grew hg, h.2.grew hg⟩
  | raised v => obtain ⟨y0, y1, y2, g1, g2, g3⟩ := h; exact ⟨y0, y1, y2, g1.grew hg, g2.grew hg, g3⟩
  | stuck => exact RIn.grew h hg
  | cut => exact RIn.grew h hg
theorem PV3.grew {nf nc : Nat} {v : PV} {c : List Value} (h : PV3 Y nf nc W1 v c) (hg : Grew Y Y' B mb cb W1 W3) : PV3 Y' nf nc W3 v c := by
  obtain ⟨a, b, d, e, hv⟩ := h
  exact ⟨a, b, d, e, hv.grew hg⟩
/-- an own row is kept by a run's step -/
theorem own_kept {base : Nat} {e : TypeId} {size m : Nat} {v : Value} {xs : List Value} (h : W.ownsRow base e size v m xs) (hk : KpX (Own2 mb cb) W W') (hne : ∀ b, v.ownBlock = some b → b ≠ mb ∧ b ≠ cb) : W'.ownsRow base e size v m xs := by
  refine ⟨h.1, h.2.imp id ?_⟩
  rintro ⟨g, cap, cur, rfl, hg, hc, h1, h2, h3, h4⟩
  exact ⟨g, cap, cur, rfl, hg, hk.same g _ hc rfl (fun e => by rcases e with e | e; exact (hne g rfl).1 e; exact (hne g rfl).2 e), h1, h2, h3, h4⟩
def OwnB (X : Nat → Prop) (v : Value) (k : Nat) : Prop := X k ∨ v.ownBlock = some k
/-- how a row of terms ends: values; or something ends it -/
def KPost (X : Nat → Prop) (B mb cb : Nat) (inp : List Int) (fuel : FL) (s : St) (r : (Res ⊕ List PV) × St) (W : World) (e : Ending) (W' : World) : Prop :=
  Stp B mb cb W W' ∧ (s.fns.length ≤ r.2.fns.length ∧ s.cells.length ≤ r.2.cells.length) ∧ ∃ A l d, e = .returned (.slice A l d) ∧
    match r with
    | (.inr vs, s') => l = vs.length ∧ vs.length ≤ d ∧ RGo X B mb cb inp fuel s' W' ∧ VRow X s'.fns.length s'.cells.length W' A vs
    | (.inl res, s') => (∀ v, res ≠ .val v) ∧ OutIn X B mb cb inp fuel W' (.int .i64 0) (.int .i64 0) (.slice none 0 0) (res, s')
theorem revs_val {rec : Core → PEnv → St → Out} {e : PEnv} {c : Core} {cs : List Core} {acc : List PV} {s s' : St} {v : PV} (h : rec c e s = (.val v, s')) : evs rec e (c :: cs) acc s = evs rec e cs (acc ++ [v]) s' := by rw [evs, h]
theorem evs_off {rec : Core → PEnv → St → Out} {e : PEnv} {c : Core} {cs : List Core} {acc : List PV} {s s' : St} {r : Res} (h : rec c e s = (r, s')) (hr : ∀ v, r ≠ .val v) : evs rec e (c :: cs) acc s = (.inl r, s') := by
  rw [evs, h]
  cases r with
  | val v => exact absurd rfl (hr v)
  | _ => rfl
end
end Go.Proofs.YtnolhcdfknjncaaDoor

/-
  The document's run: the values of some terms, from the left.
-/
set_option linter.unusedVariables false
set_option linter.unusedSimpArgs false
namespace Go.Proofs.YtnolhcdfknjncaaDoor
open Go.RowKit

section
variable {X Y Y' : Nat → Prop} {B mb cb n : Nat} {inp : List Int} {fuel : FL} {s s1 : St} {cut stk rai : Bool} {x0 x1 x2 : Value} {W W' W1 W2 W3 : World} {o : Out}
theorem OutIn.off {a b c : Value} {r : Res} (h : OutIn X B mb cb inp fuel W a b c (r, s)) (hr : ∀ v, r ≠ .val v) : ∃ cut stk rai x0 x1 x2, RIn X B mb cb inp fuel s cut stk rai x0 x1 x2 W ∧ (cut || stk || rai) = true := by
  cases r with
  | val v => exact absurd rfl (hr v)
  | raised v => obtain ⟨y0, y1, y2, g1, g2, g3⟩ := h; exact ⟨_, _, _, _, _, _, g1, rfl⟩
  | stuck => exact ⟨_, _, _, _, _, _, h, rfl⟩
  | cut => exact ⟨_, _, _, _, _, _, h, rfl⟩
theorem OutIn.vals {a b c a' b' c' : Value} {r : Res} (h : OutIn X B mb cb inp fuel W a b c (r, s)) (hr : ∀ v, r ≠ .val v) : OutIn X B mb cb inp fuel W a' b' c' (r, s) := by
  cases r with
  | val v => exact absurd rfl (hr v)
  | raised v => exact h
  | stuck => exact h
  | cut => exact h
def KOff (X : Nat → Prop) (B mb cb : Nat) (inp : List Int) (fuel : FL) (n : Nat) (e : PEnv) (cs : List Core) (s : St) (v : Value) (wr : World) : Prop :=
  ∃ r s', evs (ev inp n) e cs [] s = (.inl r, s') ∧ (∀ v, r ≠ .val v) ∧ (s.fns.length ≤ s'.fns.length ∧ s.cells.length ≤ s'.cells.length) ∧ OutIn (OwnB X v) B mb cb inp fuel wr (.int .i64 0) (.int .i64 0) (.slice none 0 0) (r, s')
/-- behind some values -/
def KMode (X : Nat → Prop) (B mb cb : Nat) (inp : List Int) (fuel : FL) (n : Nat) (e : PEnv) (pv : Value) (cs : List Core) (s : St) (j : Nat) (v : Value) (xs : List Value) (wr : World) : Prop :=
  (∃ vs s', evs (ev inp n) e cs [] s = evs (ev inp n) e (cs.drop j) vs s' ∧ vs.length = j ∧ s'.left ≤ s.left ∧ (s.fns.length ≤ s'.fns.length ∧ s.cells.length ≤ s'.cells.length) ∧ RGo (OwnB X v) B mb cb inp fuel s' wr ∧ EIn (OwnB X v) s'.fns.length s'.cells.length wr e pv ∧ RVals (PV3 (OwnB X v) s'.fns.length s'.cells.length wr) 3 vs xs)
  ∨ KOff X B mb cb inp fuel n e cs s v wr
theorem own_lt_ {base : Nat} {e : TypeId} {size m : Nat} {v : Value} {xs : List Value} {w : World} (h : w.ownsRow base e size v m xs) : ∀ b, v.ownBlock = some b → b < w.heap.size := by
  intro b hb
  rcases h.2 with ⟨rfl, _⟩ | ⟨g, cap, cur, rfl, hg, hc, _⟩
  · simp [Value.ownBlock] at hb
  · simp [Value.ownBlock] at hb
    subst hb
    exact (Array.getElem?_eq_some_iff.1 hc).1
theorem kids_next {e : PEnv} {pv : Value} {cs : List Core} {j : Nat} {v : Value} {xs : List Value} {wr : World} (hX : ∀ k, Own2 mb cb k → X k) (hm : mb < W.heap.size ∧ cb < W.heap.size) (hBW : B ≤ W.heap.size) (hst : Stp B mb cb W wr) (hown : wr.ownsRow W.heap.size 65 3 v j xs)
    {vs : List PV} {s' : St} (hev : evs (ev inp n) e cs [] s = evs (ev inp n) e (cs.drop j) vs s') (hvl : vs.length = j) (hle : s'.left ≤ s.left) (hgr : s.fns.length ≤ s'.fns.length ∧ s.cells.length ≤ s'.cells.length) (he : EIn (OwnB X v) s'.fns.length s'.cells.length wr e pv) (hvs : RVals (PV3 (OwnB X v) s'.fns.length s'.cells.length wr) 3 vs xs)
    (hj : j < cs.length) {w1 w3 : World} {k0 n0 : Int} {A : Option Addr} {l d : Nat} (hst1 : Stp B mb cb wr w1) (hgr1 : s'.fns.length ≤ (ev inp n cs[j] e s').2.fns.length ∧ s'.cells.length ≤ (ev inp n cs[j] e s').2.cells.length)
    (ho : OutIn (OwnB X v) B mb cb inp fuel w1 (.int .i64 k0) (.int .i64 n0) (.slice A l d) (ev inp n cs[j] e s')) {T : TypeId} {v' : Value} (hg : (w1.alloc (.cells #[.int .i64 k0, .int .i64 n0, .slice A l d] T)).grownBy w3 v.ownBlock) (hat : v'.ownBlock = v.ownBlock ∨ v'.ownBlock = some (w1.alloc (.cells #[.int .i64 k0, .int .i64 n0, .slice A l d] T)).heap.size) :
    Stp B mb cb W w3 ∧ KMode X B mb cb inp fuel n e pv cs s (j + 1) v' (xs ++ [.int .i64 k0, .int .i64 n0, .slice A l d]) w3 := by
  have hge := own_ge hown
  have hs1 := hst.trans hst1
  have hBw1 : B ≤ w1.heap.size := Nat.le_trans hBW hs1.kp.size
  have hG : Grew (OwnB X v) (OwnB X v') B mb cb w1 w3 := Grew.of hBw1 (below_al1 w1 _) hg
    (fun b hb => by have := hge b hb; exact ⟨.inr hb, by omega, by omega, by omega⟩)
    (fun k hk => by
      rcases hk with hk | hk
      · exact .inl (.inl hk)
      · rcases hat with h | h
        · exact .inl (.inr (h ▸ hk))
        · rw [h] at hk
          simp only [Option.some.injEq] at hk
          have : w1.heap.size ≤ (w1.alloc (.cells #[.int .i64 k0, .int .i64 n0, .slice A l d] T)).heap.size := by simp
          omega)
    (fun k hk => .inl (hX k hk))
  have hS3 : Stp B mb cb W w3 := by
    refine ⟨hs1.bel.trans hG.bel, ⟨Nat.le_trans hs1.kp.size hG.kp.size, fun k o' hk hc hx => ?_⟩⟩
    have hlt := (Array.getElem?_eq_some_iff.1 hk).1
    have h1 := hs1.kp.same k o' hk hc hx
    have hlt1 := (Array.getElem?_eq_some_iff.1 h1).1
    refine (hg.block k (by simp; omega) (fun e => by have := hge k e.symm; omega)).trans (((below_al1 w1 _).block k hlt1).trans h1)
  refine ⟨hS3, ?_⟩
  have hd : cs.drop j = cs[j] :: cs.drop (j + 1) := by rw [List.drop_eq_getElem_cons hj]
  have hkx : KpX (OwnB X v) wr w1 := hst1.kp.mono (fun k hk => .inl (hX k hk))
  have hlt := (ev_le inp n cs[j] e s').left
  generalize hr : ev inp n cs[j] e s' = out at *
  obtain ⟨r, s2⟩ := out
  by_cases hv : ∃ vv, r = .val vv
  · obtain ⟨vv, rfl⟩ := hv
    refine .inl ⟨vs ++ [vv], s2, ?_, by simp [hvl], by simpa using Nat.le_trans hlt hle, ⟨Nat.le_trans hgr.1 hgr1.1, Nat.le_trans hgr.2 hgr1.2⟩, ho.1.grew hG, (he.step hkx hgr1.1 hgr1.2).grew hG, ?_⟩
    · rw [hev, hd, revs_val hr]
    · refine RVals.app (hvs.mono fun a c h => (h.step hkx hgr1.1 hgr1.2).grew hG) (.single ⟨_, _, _, rfl, ho.2.grew hG⟩ rfl)
  · have hnv : ∀ v, r ≠ .val v := fun v e => hv ⟨v, e⟩
    refine .inr ⟨r, s2, ?_, hnv, ⟨Nat.le_trans hgr.1 hgr1.1, Nat.le_trans hgr.2 hgr1.2⟩, (ho.vals hnv).grew hG⟩
    rw [hev, hd, evs_off hr hnv]
/-- the end of some terms -/
theorem kids_end {e : PEnv} {pv : Value} {cs : List Core} {j : Nat} {v : Value} {xs : List Value} {wr : World} (hX : ∀ k, Own2 mb cb k → X k) (hXl : ∀ k, X k → k < W.heap.size) (hst : Stp B mb cb W wr) (hown : wr.ownsRow W.heap.size 65 3 v j xs)
    (hmode : KMode X B mb cb inp fuel n e pv cs s j v xs wr) (hend : j < cs.length → KOff X B mb cb inp fuel n e cs s v wr) : KPost X B mb cb inp fuel s (evs (ev inp n) e cs [] s) W (.returned v) wr := by
  obtain ⟨A, cap, rfl, hcap, hA⟩ : ∃ A cap, v = .slice A j cap ∧ j ≤ cap ∧ (0 < j → ∃ g, A = some ⟨g, 0, none⟩ ∧ W.heap.size ≤ g ∧ ∀ i u, xs[i]? = some u → wr.cell? ⟨g, 0 + i, none⟩ = some u) := by
    rcases Nat.eq_zero_or_pos j with h0 | h0
    · subst h0
      rcases hown.2 with ⟨rfl, _⟩ | ⟨g, cap, cur, rfl, _⟩
      · exact ⟨_, _, rfl, Nat.le_refl _, fun h => by omega⟩
      · exact ⟨_, _, rfl, Nat.zero_le _, fun h => by omega⟩
    · obtain ⟨g, cap, rfl, hg, hc, -, -, hcell⟩ := own_cell hown h0
      exact ⟨_, _, rfl, hc, fun _ => ⟨g, rfl, hg, hcell⟩⟩
  have hmoreX : ∀ k, X k → OwnB X (.slice A j cap) k ∨ wr.heap.size ≤ k := fun k hk => .inl (.inl hk)
  have hoff : KOff X B mb cb inp fuel n e cs s (.slice A j cap) wr → KPost X B mb cb inp fuel s (evs (ev inp n) e cs [] s) W (.returned (.slice A j cap)) wr := by
    rintro ⟨r, s', hev, hr, hgr, ho⟩
    rw [hev]
    exact ⟨hst, hgr, A, j, cap, rfl, hr, ho.more hmoreX hX⟩
  by_cases hj : j < cs.length
  · exact hoff (hend hj)
  rcases hmode with ⟨vs, s', hev, hvl, hle, hgr, hgo, he, hvs⟩ | hko
  · have hdr : cs.drop j = [] := List.drop_eq_nil_iff.2 (by omega)
    rw [hev, hdr]
    refine ⟨hst, hgr, A, j, cap, rfl, hvl.symm, by omega, hgo.more hmoreX hX, ?_⟩
    rcases Nat.eq_zero_or_pos j with h0 | h0
    · exact .inl (List.eq_nil_of_length_eq_zero (by omega))
    · obtain ⟨g, rfl, hg, hcell⟩ := hA h0
      exact VRow.mk_ (hvs.mono fun a c ⟨p, q, r, e, h⟩ => ⟨p, q, r, e, h.more (fun k hk => .inl (.inl hk))⟩) (fun hx => by have := hXl g hx; omega) hcell
  · exact hoff hko
end
end Go.Proofs.YtnolhcdfknjncaaDoor

/-
  The document's run: the values of some terms: the walk.
-/
set_option linter.unusedVariables false
set_option linter.unusedSimpArgs false
namespace Go.Proofs.YtnolhcdfknjncaaDoor
open Go.RowKit

section
variable {X Y Y' : Nat → Prop} {B mb cb n : Nat} {inp : List Int} {fuel : FL} {s s1 : St} {cut stk rai : Bool} {x0 x1 x2 : Value} {W W' W1 W2 W3 : World} {o : Out}
set_option maxRecDepth 100000 in
set_option maxHeartbeats 4000000 in
theorem rkids_any (hok : RTermOk B mb cb inp n) (h : RGo X B mb cb inp fuel s W) (hX : ∀ k, X k → k < W.heap.size) {cs : List Core} {Ac : Option Addr} {b o : Nat} {G0 G1 G2 G3 : Nat → Value} (hK : KidsIn B W Ac cs b o G0 G1 G2 G3) (hsm : ∀ c ∈ cs, SmallT c) {e : PEnv} {pv : Value} (he : EIn X s.fns.length s.cells.length W e pv) (hn : s.left < n) (cc : Nat) :
    Calls Tryd.prog 53 #[.pointer (some ⟨cb, 0, none⟩), .slice Ac cs.length cc, pv] W (KPost X B mb cb inp fuel s (evs (ev inp n) e cs [] s) W) := by
  have hm := own_lt h
  have hBW := h.hBW
  have hcl : cs.length ≤ 2200000000000 := by have := hK.hcl; omega
  obtain ⟨pq, rfl⟩ := he.shape
  obtain ⟨inf0, hinf, hz0, hz1, hz2⟩ := info_parts Tryd.infoV
  have hb1 := below_al1 W (.cells #[] 65)
  have HST := Lib.hid (show (W.alloc (.cells #[] 65)).ownsRow W.heap.size 65 3 (.slice (some ⟨W.heap.size, 0, none⟩) 0 0) 0 [] ∧ Stp B mb cb W (W.alloc (.cells #[] 65)) ∧ KMode X B mb cb inp fuel n e (.pointer pq) cs s 0 (.slice (some ⟨W.heap.size, 0, none⟩) 0 0) [] (W.alloc (.cells #[] 65)) from
    ⟨own_empty W (Nat.le_refl _) _ _, Stp.below hb1 hBW, .inl ⟨[], s, by simp, rfl, Nat.le_refl _, ⟨Nat.le_refl _, Nat.le_refl _⟩,
      (h.more (Y := OwnB X (.slice (some ⟨W.heap.size, 0, none⟩) 0 0)) (fun k hk => hk.imp id (fun e => by simp [Value.ownBlock] at e; omega)) (fun k hk => .inl (h.hX k hk))).below hb1,
      (he.more (Y := OwnB X (.slice (some ⟨W.heap.size, 0, none⟩) 0 0)) (fun k hk => hk.imp id (fun e => by simp [Value.ownBlock] at e; omega))).step (KpX.below hb1) (Nat.le_refl _) (Nat.le_refl _), .nil⟩⟩)
  have HI := Lib.hid (And.intro h.hX (And.intro hok (And.intro hX (And.intro hK (And.intro hsm hn)))))
  have HEND := Lib.hid (fun (j : Nat) (v : Value) (xs : List Value) (wr : World) (hst : Stp B mb cb W wr) (hown : wr.ownsRow W.heap.size 65 3 v j xs) (hmode : KMode X B mb cb inp fuel n e (.pointer pq) cs s j v xs wr) (hend : j < cs.length → KOff X B mb cb inp fuel n e cs s v wr) => kids_end h.hX hX hst hown hmode hend)
  clear h hX hK hsm he hn hok hb1
  have HM := Lib.hid hm
  have HBW := Lib.hid hBW
  clear hm hBW
  go_enter Tryd.func53, Tryd.ntmps53
  go_wp2_with fail
  go_loopw [7, 8] (fun v i wr => ∃ (j : Nat) (xs : List Value) (v0 : Value), v0 = v ∧ j ≤ cs.length ∧ i = .int .i64 (j : Int) ∧ Hid (wr.ownsRow W.heap.size 65 3 v0 j xs ∧ Stp B mb cb W wr ∧ KMode X B mb cb inp fuel n e (.pointer pq) cs s j v0 xs wr)) (fun _ i _ => cs.length - (intOf i).toNat)
  case atStart => exact ⟨0, [], _, rfl, by omega, rfl, HST⟩
  case round =>
    obtain ⟨j, xs, v, hv, hj, rfl, HQ⟩ := hrel
    subst hv
    obtain ⟨hown, hst, hmode⟩ := HQ.out
    clear HQ
    have HE := Lib.hid (HEND.out j _ xs wr hst hown hmode)
    have hmode0 := hmode
    by_cases hlt : j < cs.length
    · rcases hmode with ⟨vs, s', hev, hvl, hle, hgr, hgo, he, hvs⟩ | hko
      · have hjl : (j : Int) < (cs.length : Int) := by omega
        have hj0 : (0 : Int) ≤ (j : Int) := by omega
        have hw1 : IntKind.i64.wrap ((j : Int) + 1) = (j : Int) + 1 := by rw [IntKind.wrap_i64]; omega
        obtain ⟨hXO, hok, hX, hK, hsm, hn⟩ := HI.out
        have mc := hgo.cells.2.2.2.2.2.2.2.2.2.2
        have HOff := Lib.hid (roff_any hgo)
        obtain ⟨rfl, hbb⟩ := hK.hA (by omega)
        have hKw := hK.below hst.bel
        have c0 := hKw.c0 j hlt
        have c1 := hKw.c1 j hlt
        have c2 := hKw.c2 j hlt
        have c3 := hKw.c3 j hlt
        have hsz := hst.kp.size
        have HT := Lib.hid (hok (OwnB X v) fuel s' wr cs[j] (G0 j) (G1 j) (G2 j) (G3 j) e (.pointer pq) hgo (fun k hk => by
          rcases hk with hk | hk
          · have := hX k hk; omega
          · exact own_lt_ hown k hk) (hKw.hsub j hlt) (hsm _ (List.getElem_mem hlt)) he (by omega))
        have HN := Lib.hid (fun (w1 w3 : World) (k0 n0 : Int) (A : Option Addr) (l d : Nat) (hst1 : Stp B mb cb wr w1) (hgr1 : s'.fns.length ≤ (ev inp n cs[j] e s').2.fns.length ∧ s'.cells.length ≤ (ev inp n cs[j] e s').2.cells.length) (ho : OutIn (OwnB X v) B mb cb inp fuel w1 (.int .i64 k0) (.int .i64 n0) (.slice A l d) (ev inp n cs[j] e s')) (v' : Value) (hg : (w1.alloc (.cells #[.int .i64 k0, .int .i64 n0, .slice A l d] 65)).grownBy w3 v.ownBlock) (hat : v'.ownBlock = v.ownBlock ∨ v'.ownBlock = some (w1.alloc (.cells #[.int .i64 k0, .int .i64 n0, .slice A l d] 65)).heap.size) =>
          kids_next hXO HM.out HBW.out hst hown hev hvl hle hgr he hvs hlt hst1 hgr1 ho hg hat)
        have HNE := Lib.hid (show ∀ b, v.ownBlock = some b → b ≠ mb ∧ b ≠ cb from fun b hb => by have := own_ge hown b hb; have := HM.out; omega)
        have HOWN := Lib.hid hown
        have HS := Lib.hid hsz
        obtain ⟨A1, n1, c1', rfl⟩ := own_shape hown
        clear hev hvl hle hgr hgo he hvs hown hst hmode0 hXO hok hX hK hsm hn hKw HE hbb hsz
        generalize ev inp n cs[j] e s' = out at *
        go_wp2_with (first
          | (go_at_call 50; refine HOff.out.mono ?_; rintro e1 w1 ⟨rfl, rfl⟩)
          | (go_at_call 28; refine HT.out.mono ?_; rintro e1 w1 ⟨hst1, hgr1, k0, n0, A0, l0, d0, rfl, ho⟩; have HO := Lib.hid (And.intro hst1 (And.intro hgr1 ho)); have HOW1 := Lib.hid (own_kept HOWN.out hst1.kp HNE.out); clear hst1 hgr1 ho)
          | (at_builtin; refine wpList_append_row _ rfl _ _ 63 rfl W.heap.size 65 inf0 _ 3 40 Tryd.underlying63 hinf hz0 hz1 hz2 rfl (by decide) _ j xs rfl (World.ownsRow.alloc HOW1.out _) _ 1 1 [.int .i64 k0, .int .i64 n0, .slice A0 l0 d0] rfl rfl (rowOf_block (new1 w1 _)) (by simp [Value.oneCell']) (by simp only [maxLen]; omega) (by omega) (Nat.le_trans HS.out (Nat.le_trans HO.out.1.kp.size (by simp))) ?_; intro v' w3 hown3 hg3 hat3; have HQ3 := Lib.hid (And.intro hown3 (HN.out w1 w3 k0 n0 A0 l0 d0 HO.out.1 HO.out.2.1 HO.out.2.2 v' hg3 hat3)); clear hown3 hg3 hat3))
        go_roundw
        case rel => exact ⟨j + 1, _, _, rfl, by omega, by go_num, HQ3⟩
        case measure => simp [intOf]; omega
      · have hjl : (j : Int) < (cs.length : Int) := by omega
        have HP := Lib.hid (HE.out (fun _ => hko))
        obtain ⟨r, s', hev, hr, hgr, ho⟩ := hko
        obtain ⟨cut, stk, rai, x0, x1, x2, hri, hfl⟩ := ho.off hr
        have mc := hri.cells.2.2.2.2.2.2.2.2.2.2
        have HOff := Lib.hid ((roff_any hri).mono fun e w' hp => (show e = .returned (.bool true) ∧ wr = w' from ⟨hp.1.trans (by rw [hfl]), hp.2⟩))
        obtain ⟨A1, n1, c1', rfl⟩ := own_shape hown
        clear hev hr hgr ho hri hfl hmode0 hst HE hown
        go_wp2_with (first
          | (go_at_call 50; refine HOff.out.mono ?_; rintro e1 w1 ⟨rfl, rfl⟩))
        go_ret
        exact HP.out
    · have hjl : ¬ (j : Int) < (cs.length : Int) := by omega
      have HP := Lib.hid (HE.out (fun e => absurd e hlt))
      clear hmode hmode0 hst HE
      obtain ⟨A1, n1, c1, rfl⟩ := own_shape hown
      clear hown
      go_wp2_with fail
      go_ret
      exact HP.out
end
end Go.Proofs.YtnolhcdfknjncaaDoor
