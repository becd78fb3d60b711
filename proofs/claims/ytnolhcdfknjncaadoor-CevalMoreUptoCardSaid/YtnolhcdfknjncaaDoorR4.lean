/-
  core.all: the iterator over a term's nodes: its closures by contracts, by induction on the term; slices.ContainsFunc and slices.IndexFunc over terms.
-/
import Derived.Test.YtnolhcdfknjncaaDoorR3
import Derived.RangeFuncNested
import Derived.RangeFuncBound
import Derived.RangeFuncCalls
import Derived.RangeFuncLeaves
import Derived.Shelf.Abstract
import Derived.Shelf.RegionOpen
import Derived.OwnWalkIn
import Derived.TacticsInMore
import Derived.LoopNIn
import Derived.LoopIn
import Derived.Laws.EntriesVeiled
set_option linter.unusedVariables false
set_option linter.unusedSimpArgs false
namespace Go.Proofs.YtnolhcdfknjncaaDoor
open Go.RowKit Go.Shelf

attribute [local go_sem] Oper.semAt_some

/-! ### plain words -/
mutual
def Core.hgt : Core → Nat
  | .mk _ _ _ cs => hgtL cs + 1
def hgtL : List Core → Nat
  | [] => 0
  | c :: cs => max c.hgt (hgtL cs)
end
mutual
/-- a term's nodes in order, with their depths -/
def nodesL (d : Int) : Core → List (Int × Core)
  | .mk k n ks cs => (d, .mk k n ks cs) :: nodesLs (d + 1) cs
def nodesLs (d : Int) : List Core → List (Int × Core)
  | [] => []
  | c :: cs => nodesL d c ++ nodesLs d cs
end
theorem hgtL_get {cs : List Core} {i : Nat} (h : i < cs.length) : cs[i].hgt ≤ hgtL cs := by
  induction cs generalizing i with
  | nil => simp at h
  | cons c cs ih =>
    cases i with
    | zero => simp [hgtL]; omega
    | succ i => have := ih (i := i) (by simpa using h); simp [hgtL]; omega
theorem nodesLs_append (d : Int) (a b : List Core) : nodesLs d (a ++ b) = nodesLs d a ++ nodesLs d b := by
  induction a with
  | nil => simp [nodesLs]
  | cons c a ih => simp [nodesLs, ih]
theorem nodesLs_take (d : Int) {cs : List Core} {i : Nat} (h : i < cs.length) : nodesLs d (cs.take (i + 1)) = nodesLs d (cs.take i) ++ nodesL d cs[i] := by
  rw [List.take_add_one, List.getElem?_eq_getElem h, nodesLs_append]; simp [nodesLs]
theorem nodesLs_take_le (d : Int) (cs : List Core) (i : Nat) : nodesLs d (cs.take i) <+: nodesLs d cs := by
  conv => rhs; rw [← List.take_append_drop i cs, nodesLs_append]
  exact List.prefix_append _ _

/-! ### worlds -/
/-- what lay below B still lies -/
def Stay (B : Nat) (w0 W : World) : Prop := ∀ b o v, b < B → w0.cell? ⟨b, o, none⟩ = some v → W.cell? ⟨b, o, none⟩ = some v
/-- of cells, all but some blocks lie as they lay -/
structure KpX (X : Nat → Prop) (W W' : World) : Prop where
  size : W.heap.size ≤ W'.heap.size
  same : ∀ (k : Nat) (o : Obj), W.heap[k]? = some o → o.isCells = true → ¬ X k → W'.heap[k]? = some o
theorem KpX.refl (X : Nat → Prop) (W : World) : KpX X W W := ⟨Nat.le_refl _, fun _ _ h _ _ => h⟩
theorem KpX.trans {X : Nat → Prop} {A B C : World} (h : KpX X A B) (k : KpX X B C) : KpX X A C := ⟨Nat.le_trans h.size k.size, fun i o hi hc hx => k.same i o (h.same i o hi hc hx) hc hx⟩
theorem KpX.alloc (X : Nat → Prop) (W : World) (o : Obj) : KpX X W (W.alloc o) := ⟨by simp, fun k o' hk _ _ => (Below.heap_alloc W o k (Array.getElem?_eq_some_iff.1 hk).1).trans hk⟩
theorem KpX.cell {X : Nat → Prop} {W W' : World} (h : KpX X W W') {b o : Nat} {v : Value} (hc : W.cell? ⟨b, o, none⟩ = some v) (hx : ¬ X b) : W'.cell? ⟨b, o, none⟩ = some v := by
  obtain ⟨ob, ho, hcc⟩ := cells_of_cell hc
  exact (World.cell?_of_block ((h.same b ob ho hcc hx).trans ho.symm)).trans hc
theorem KpX.frozen {X : Nat → Prop} {W W' : World} (h : KpX X W W') {b o : Nat} {v : Value} (hc : W.cell? ⟨b, o, none⟩ = some v) (hx : ¬ X b) : W'.frozen? ⟨b, o, none⟩ = W.frozen? ⟨b, o, none⟩ := by
  obtain ⟨ob, ho, hcc⟩ := cells_of_cell hc
  exact World.frozen?_of_block ((h.same b ob ho hcc hx).trans ho.symm)
theorem KpX.setCell {X : Nat → Prop} (W : World) {b : Nat} (o : Nat) (v : Value) (hx : X b) : KpX X W (W.setCell ⟨b, o, none⟩ v) :=
  ⟨by simp [World.setCell], fun k ob hk _ hxk => (Below.heap_setCell W _ _ k (fun e => hxk (by subst e; exact hx))).trans hk⟩
theorem KpX.below {X : Nat → Prop} {W W' : World} (h : Below W.heap.size W W') : KpX X W W' := ⟨h.size, fun k o hk _ _ => (h.block k (Array.getElem?_eq_some_iff.1 hk).1).trans hk⟩
theorem KpX.putObj {X : Nat → Prop} (W : World) (l : Nat) (o o' : Obj) (h : W.heap[l]? = some o) (ho : o.isCells = false) : KpX X W (W.putObj l o') :=
  ⟨by simp, fun k ob hk hc _ => (World.putObj_heap_other (fun e => by subst e; rw [hk] at h; cases h; rw [hc] at ho; cases ho)).trans hk⟩
theorem Stay.step {B : Nat} {w0 A C : World} {X : Nat → Prop} (h : Stay B w0 A) (hk : KpX X A C) (hX : ∀ k, X k → B ≤ k) : Stay B w0 C :=
  fun b o v hb hc => hk.cell (h b o v hb hc) (fun hx => by have := hX b hx; omega)
theorem Stay.refl (B : Nat) (w : World) : Stay B w w := fun _ _ _ _ h => h
theorem Stay.of_below {B : Nat} {w w' : World} (h : Below B w w') : Stay B w w' := fun b o v hb hc => (h.cell (p := ⟨b, o, none⟩) hb).trans hc
theorem Stay.trans {B : Nat} {a b c : World} (h : Stay B a b) (k : Stay B b c) : Stay B a c := fun x o v hb hc => k x o v hb (h x o v hb hc)

theorem IntsIn.stay {B : Nat} {w w' : World} {A : Option Addr} {ks : List Int} (h : IntsIn B w A ks) (hb : Stay B w w') : IntsIn B w' A ks := by
  refine ⟨h.1, h.2.imp id ?_⟩
  rintro ⟨b, o, rfl, hlt, hc⟩
  exact ⟨b, o, rfl, hlt, fun j hj => hb _ _ _ hlt (hc j hj)⟩
theorem CoreIn.stay {B : Nat} {w w' : World} (hb : Stay B w w') {t : Core} {v : Array Value} (h : CoreIn B w t v) : CoreIn B w' t v := by
  induction h with
  | mk hks hck hcc hcl hA c0 c1 c2 c3 hsub ih =>
    refine .mk (hks.stay hb) hck hcc hcl hA ?_ ?_ ?_ ?_ ih
    · exact fun i hi => hb _ _ _ (hA (by omega)).2 (c0 i hi)
    · exact fun i hi => hb _ _ _ (hA (by omega)).2 (c1 i hi)
    · exact fun i hi => hb _ _ _ (hA (by omega)).2 (c2 i hi)
    · exact fun i hi => hb _ _ _ (hA (by omega)).2 (c3 i hi)

/-! ### slices.IndexFunc, slices.ContainsFunc over terms: what the function does is a premise -/
def IdxPost (n : Nat) (I : Nat → World → Prop) (Q : World → Prop) (e : Ending) (W' : World) : Prop := (e = .returned (.int .i64 (-1)) ∧ I n W') ∨ (∃ i : Nat, e = .returned (.int .i64 i) ∧ Q W')
def AskPost (i : Nat) (I : Nat → World → Prop) (Q : World → Prop) (e : Ending) (W' : World) : Prop := (e = .returned (.bool false) ∧ I (i + 1) W') ∨ (e = .returned (.bool true) ∧ Q W')

set_option maxRecDepth 100000 in
set_option maxHeartbeats 800000 in
theorem indexFunc_any (g : Nat) (caps : Array Value) (eg : ∀ args w, (callFunc g args).run Tryd.prog w = .ok (.enter g args) w) (Ac : Option Addr) (n c b o : Nat) (G0 G1 G2 G3 : Nat → Value) (I : Nat → World → Prop) (Q : World → Prop) (hn : n ≤ 9000000000000000000)
    (hA : 0 < n → Ac = some ⟨b, o, none⟩)
    (hcells : ∀ i W, I i W → i < n → W.cell? ⟨b, o + i * 4, none⟩ = some (G0 i) ∧ W.cell? ⟨b, o + i * 4 + 1, none⟩ = some (G1 i) ∧ W.cell? ⟨b, o + i * 4 + 2, none⟩ = some (G2 i) ∧ W.cell? ⟨b, o + i * 4 + 3, none⟩ = some (G3 i))
    (hcall : ∀ i W, I i W → i < n → Calls Tryd.prog g (#[.agg #[G0 i, G1 i, G2 i, G3 i]] ++ caps) W (AskPost i I Q)) (W : World) (h0 : I 0 W) :
    Calls Tryd.prog 82 #[.slice Ac n c, .func (.func g) #[] caps] W (IdxPost n I Q) := by
  have H1 := Lib.hid hcells
  have H2 := Lib.hid hcall
  have H3 := Lib.hid hA
  clear hcells hcall hA
  go_enter Tryd.func82, Tryd.ntmps82
  go_wp2_with fail
  go_loopw [8] (fun i wr => ∃ k : Nat, k ≤ n ∧ i = .int .i64 k ∧ I k wr) (fun i _ => n - (intOf i).toNat)
  case atStart => exact ⟨0, by omega, rfl, h0⟩
  case round =>
    obtain ⟨k, hk, rfl, hI⟩ := hrel
    by_cases hlt : k < n
    · obtain ⟨c0, c1, c2, c3⟩ := H1.out k wr hI hlt
      obtain rfl := H3.out (by omega)
      have hq := Lib.hid (H2.out k wr hI hlt)
      go_wp2_with fail
      refine hq.out.mono ?_
      rintro e w' (⟨rfl, hI'⟩ | ⟨rfl, hQ⟩)
      · go_wp2_with fail
        go_roundw
        case rel => exact ⟨k + 1, by omega, by go_num, hI'⟩
        case measure => simp [intOf]; omega
      · go_wp2_with fail
        go_ret
        exact .inr ⟨k, rfl, hQ⟩
    · have : k = n := by omega
      subst this
      go_wp2_with fail
      go_ret
      exact .inl ⟨rfl, hI⟩

def HasPost (n : Nat) (I : Nat → World → Prop) (Q : World → Prop) (e : Ending) (W' : World) : Prop := (e = .returned (.bool false) ∧ I n W') ∨ (e = .returned (.bool true) ∧ Q W')
theorem containsFunc_any (g : Nat) (caps : Array Value) (eg : ∀ args w, (callFunc g args).run Tryd.prog w = .ok (.enter g args) w) (Ac : Option Addr) (n c b o : Nat) (G0 G1 G2 G3 : Nat → Value) (I : Nat → World → Prop) (Q : World → Prop) (hn : n ≤ 9000000000000000000)
    (hA : 0 < n → Ac = some ⟨b, o, none⟩)
    (hcells : ∀ i W, I i W → i < n → W.cell? ⟨b, o + i * 4, none⟩ = some (G0 i) ∧ W.cell? ⟨b, o + i * 4 + 1, none⟩ = some (G1 i) ∧ W.cell? ⟨b, o + i * 4 + 2, none⟩ = some (G2 i) ∧ W.cell? ⟨b, o + i * 4 + 3, none⟩ = some (G3 i))
    (hcall : ∀ i W, I i W → i < n → Calls Tryd.prog g (#[.agg #[G0 i, G1 i, G2 i, G3 i]] ++ caps) W (AskPost i I Q)) (W : World) (h0 : I 0 W) :
    Calls Tryd.prog 64 #[.slice Ac n c, .func (.func g) #[] caps] W (HasPost n I Q) := by
  have H := Lib.hid (indexFunc_any g caps eg Ac n c b o G0 G1 G2 G3 I Q hn hA hcells hcall W h0)
  clear hcells hcall hA
  go_enter Tryd.func64, Tryd.ntmps64
  go_wp2_with fail
  refine H.out.mono ?_
  rintro e w' (⟨rfl, hI⟩ | ⟨i, rfl, hQ⟩)
  · go_wp2_with fail
    go_ret
    exact .inl ⟨rfl, hI⟩
  · have hi : (0 : Int) ≤ (i : Int) := by omega
    go_wp2_with fail
    go_ret
    exact .inr ⟨rfl, hQ⟩

/-! ### the walker -/
/-- a node as it is told: its depth, the term, its four cells -/
structure NodeX (B : Nat) (w0 : World) where
  d : Int
  t : Core
  v : Array Value
  hin : CoreIn B w0 t v
  hd : 0 ≤ d ∧ d ≤ 60000
def projX {B : Nat} {w0 : World} (l : List (NodeX B w0)) : List (Int × Core) := l.map fun x => (x.d, x.t)
theorem enters_walk : ∀ args w, (callFunc 63 args).run Tryd.prog w = .ok (.enter 63 args) w := enters_of Tryd.func63 (by kernel_rfl) rfl
theorem enters_kid : ∀ args w, (callFunc 65 args).run Tryd.prog w = .ok (.enter 65 args) w := enters_of Tryd.func65 (by kernel_rfl) rfl

/-- how a walk over a part of the term ends -/
def WalkPost {B : Nat} {w0 : World} (yes no : Bool) (l : List (Int × Core)) (X : Nat → Prop) (J Jx : List (NodeX B w0) → World → Prop) (pre : List (NodeX B w0)) (W : World) (e : Ending) (W' : World) : Prop :=
  (e = .returned (.bool yes) ∧ ∃ q : List (NodeX B w0), projX q = l ∧ J (pre ++ q) W' ∧ KpX X W W') ∨ (e = .returned (.bool no) ∧ ∃ q : List (NodeX B w0), projX q <+: l ∧ Jx (pre ++ q) W')

/-- what holds in a world in which the walk goes on -/
structure WalkAt {B : Nat} (w0 : World) (n₀ N l : Nat) (X : Nat → Prop) (J : List (NodeX B w0) → World → Prop) (yb wb : Nat) (pre : List (NodeX B w0)) (W : World) : Prop where
  stay : Stay B w0 W
  size : n₀ ≤ W.heap.size
  yc : W.cell? ⟨yb, 0, none⟩ = some (.func (.yield l) #[] #[])
  wc : W.cell? ⟨wb, 0, none⟩ = some (.func (.func 63) #[] #[.pointer (some ⟨yb, 0, none⟩), .pointer (some ⟨wb, 0, none⟩)])
  inv : J pre W
theorem WalkAt.alloc {B : Nat} {w0 : World} {n₀ N l : Nat} {X : Nat → Prop} {J : List (NodeX B w0) → World → Prop} {yb wb : Nat} {pre : List (NodeX B w0)} {W : World} (h : WalkAt w0 n₀ N l X J yb wb pre W) (hJ : AbidesFrom n₀ J) (o : Obj) : WalkAt w0 n₀ N l X J yb wb pre (W.alloc o) :=
  have hk := KpX.alloc (fun _ => False) W o
  ⟨h.stay.step hk (fun _ hx => hx.elim), by have := h.size; simp; omega, hk.cell h.yc id, hk.cell h.wc id, hJ _ _ _ none h.inv (World.grownBy_alloc W o none) (fun r e => by cases e)⟩
theorem WalkAt.step {B : Nat} {w0 : World} {n₀ N l : Nat} {X : Nat → Prop} {J : List (NodeX B w0) → World → Prop} {yb wb : Nat} {pre pre' : List (NodeX B w0)} {W W' : World} (h : WalkAt w0 n₀ N l X J yb wb pre W) (hX : ∀ k, X k → B ≤ k ∧ k < n₀) (hyb : n₀ ≤ yb) (hwb : n₀ ≤ wb) (hk : KpX X W W') (hJ : J pre' W') : WalkAt w0 n₀ N l X J yb wb pre' W' :=
  ⟨h.stay.step hk (fun k hx => (hX k hx).1), Nat.le_trans h.size hk.size, hk.cell h.yc (fun hx => by have := (hX _ hx).2; omega), hk.cell h.wc (fun hx => by have := (hX _ hx).2; omega), hJ⟩

/-- the walker does what it should at a term -/
def WalkOk {B : Nat} (w0 : World) (n₀ N l : Nat) (X : Nat → Prop) (J Jx : List (NodeX B w0) → World → Prop) (yb wb : Nat) (t : Core) (v : Array Value) : Prop :=
  ∀ (d : Int) pre W, 0 ≤ d → d + t.hgt ≤ 60000 → WalkAt w0 n₀ N l X J yb wb pre W → pre.length + (nodesL d t).length ≤ N →
    Calls Tryd.prog 63 #[.agg v, .int .i64 d, .pointer (some ⟨yb, 0, none⟩), .pointer (some ⟨wb, 0, none⟩)] W (WalkPost true false (nodesL d t) X J Jx pre W)

/-- 'func(k api.Core) bool { return !walk(k, depth+1) }' -/
theorem kid_any {B : Nat} {w0 : World} {n₀ N l : Nat} {X : Nat → Prop} {J Jx : List (NodeX B w0) → World → Prop} {yb wb : Nat} (hJ : AbidesFrom n₀ J) (t : Core) (c0 c1 c2 c3 : Value) (hok : WalkOk w0 n₀ N l X J Jx yb wb t #[c0, c1, c2, c3])
    (d : Int) (hd0 : 0 ≤ d) (hd : d + 1 + t.hgt ≤ 60000) (db : Nat) (pre : List (NodeX B w0)) (W : World) (hW : WalkAt w0 n₀ N l X J yb wb pre W) (hN : pre.length + (nodesL (d + 1) t).length ≤ N)
    (hdb : W.cell? ⟨db, 0, none⟩ = some (.int .i64 d)) :
    Calls Tryd.prog 65 #[.agg #[c0, c1, c2, c3], .pointer (some ⟨wb, 0, none⟩), .pointer (some ⟨db, 0, none⟩)] W (WalkPost false true (nodesL (d + 1) t) X J Jx pre W) := by
  have hW1 := hW.alloc hJ (.cells #[c0, c1, c2, c3] 26)
  have H := Lib.hid (hok (d + 1) pre _ (by omega) (by omega) hW1 hN)
  have hwc := hW.wc
  have hwb := World.block_lt_of_cell? _ _ hwc
  have hdbl := World.block_lt_of_cell? _ _ hdb
  have hdm : d < 60000 := by omega
  clear hW hW1 hok hJ
  go_enter Tryd.func65, Tryd.ntmps65
  go_wp2_with fail
  refine H.out.mono ?_
  rintro e w' (⟨rfl, q, hq, hJq, hk⟩ | ⟨rfl, q, hq, hJq⟩)
  · go_wp2_with fail
    go_ret
    exact .inl ⟨rfl, q, hq, hJq, (KpX.alloc X W _).trans hk⟩
  · go_wp2_with fail
    go_ret
    exact .inr ⟨rfl, q, hq, hJq⟩

theorem projX_append {B : Nat} {w0 : World} (a b : List (NodeX B w0)) : projX (a ++ b) = projX a ++ projX b := by simp [projX]
theorem projX_length {B : Nat} {w0 : World} (a : List (NodeX B w0)) : (projX a).length = a.length := by simp [projX]

set_option maxRecDepth 100000 in
set_option maxHeartbeats 2000000 in
/-- **'walk = func(c, depth) bool { return yield(depth, c) && !slices.ContainsFunc(c.Kids, ..) }'**: by induction on the term. -/
theorem walk_ok {B : Nat} {w0 : World} {n₀ N l : Nat} {X : Nat → Prop} {J Jx : List (NodeX B w0) → World → Prop} {yb wb : Nat} (hB : B ≤ n₀) (hX : ∀ k, X k → B ≤ k ∧ k < n₀) (hyb : n₀ ≤ yb) (hwb : n₀ ≤ wb) (hJ : AbidesFrom n₀ J)
    (hY : ∀ m pre (x : NodeX B w0) W, J pre W → pre.length < N → YieldAt Fence.wide m Tryd.prog l #[.int .i64 x.d, .agg x.v] W fun e W' => (e = .returned (.bool true) ∧ J (pre ++ [x]) W' ∧ KpX X W W') ∨ (e = .returned (.bool false) ∧ Jx (pre ++ [x]) W'))
    {t : Core} {v : Array Value} (hin : CoreIn B w0 t v) : WalkOk w0 n₀ N l X J Jx yb wb t v := by
  induction hin with
  | @mk k n ks cs Ak ck Ac cc b o G0 G1 G2 G3 hks hck hcc hcl hA c0 c1 c2 c3 hsub ih =>
    intro d pre W hd0 hd hW hN
    have hin : CoreIn B w0 (.mk k n ks cs) #[.int .i64 k, .int .i64 n, .slice Ak ks.length ck, .slice Ac cs.length cc] := .mk hks hck hcc hcl hA c0 c1 c2 c3 hsub
    have hh : (Core.mk k n ks cs).hgt = hgtL cs + 1 := by simp [Core.hgt]
    rw [hh] at hd
    have hnl : nodesL d (.mk k n ks cs) = (d, .mk k n ks cs) :: nodesLs (d + 1) cs := by simp [nodesL]
    rw [hnl] at hN ⊢
    simp only [List.length_cons] at hN
    obtain ⟨x, hx⟩ : ∃ x : NodeX B w0, x = ⟨d, _, _, hin, ⟨hd0, by omega⟩⟩ := ⟨_, rfl⟩
    have hxd : x.d = d := by rw [hx]
    have hxv : x.v = #[.int .i64 k, .int .i64 n, .slice Ak ks.length ck, .slice Ac cs.length cc] := by rw [hx]
    have hxt : x.t = .mk k n ks cs := by rw [hx]
    clear hx
    obtain ⟨W2, hW2⟩ : ∃ W2, (W.alloc (.cells #[.int .i64 k, .int .i64 n, .slice Ak ks.length ck, .slice Ac cs.length cc] 26)).alloc (.cells #[.int .i64 d] 3) = W2 := ⟨_, rfl⟩
    have hWA : WalkAt w0 n₀ N l X J yb wb pre W2 := by rw [← hW2]; exact (hW.alloc hJ _).alloc hJ _
    have hk2 : KpX X W W2 := by rw [← hW2]; exact (KpX.alloc X W _).trans (KpX.alloc X _ _)
    have e0 : W2.cell? ⟨W.heap.size, 0, none⟩ = some (.int .i64 k) := by rw [← hW2, World.cell?_alloc_past _ _ _ (by simp), World.cell?_alloc_at _ _ _ _ rfl]; rfl
    have e1 : W2.cell? ⟨W.heap.size, 1, none⟩ = some (.int .i64 n) := by rw [← hW2, World.cell?_alloc_past _ _ _ (by simp), World.cell?_alloc_at _ _ _ _ rfl]; rfl
    have e2 : W2.cell? ⟨W.heap.size, 2, none⟩ = some (.slice Ak ks.length ck) := by rw [← hW2, World.cell?_alloc_past _ _ _ (by simp), World.cell?_alloc_at _ _ _ _ rfl]; rfl
    have e3 : W2.cell? ⟨W.heap.size, 3, none⟩ = some (.slice Ac cs.length cc) := by rw [← hW2, World.cell?_alloc_past _ _ _ (by simp), World.cell?_alloc_at _ _ _ _ rfl]; rfl
    have ed : W2.cell? ⟨W.heap.size + 1, 0, none⟩ = some (.int .i64 d) := by rw [← hW2, World.cell?_alloc_at _ _ _ _ (by simp)]; rfl
    have hyc := hWA.yc
    have HW := Lib.hid hWA
    -- the round
    have hnx : ¬ X W.heap.size := fun hx => by have := (hX _ hx).2; have := hW.size; omega
    have hnx1 : ¬ X (W.heap.size + 1) := fun hx => by have := (hX _ hx).2; have := hW.size; omega
    have hy2 := (hY (1 - 1) pre x W2 hWA.inv (by omega)).mono (R' := fun e W3 =>
      (e = .returned (.bool true) ∧ W3.cell? ⟨W.heap.size, 3, none⟩ = some (.slice Ac cs.length cc) ∧ Hid (KpX X W W3 ∧ WalkAt w0 n₀ N l X J yb wb (pre ++ [x]) W3 ∧ W3.cell? ⟨W.heap.size + 1, 0, none⟩ = some (.int .i64 d))) ∨ (e = .returned (.bool false) ∧ Jx (pre ++ [x]) W3))
      (fun e W3 h => h.elim (fun ⟨he, hj, hk⟩ => .inl ⟨he, hk.cell e3 hnx, hk2.trans hk, hWA.step hX hyb hwb hk hj, hk.cell ed hnx1⟩) .inr)
    obtain ⟨fn, tmps, assign, body, hy, hR⟩ := hy2
    rw [hxd, hxv] at hy
    have HR := Lib.hid hR
    clear hR hWA hW hk2
    refine (callsIn_wide (n := 1)).1 ?_
    refine callsIn_of_wp Tryd.func63 rfl trivial ?_ rfl
    simp only [Tryd.ntmps63, List.size_toArray, List.length_cons, List.length_nil, Nat.reduceAdd, Nat.reduceSub, Array.replicate_succ, Array.replicate_zero, List.push_toArray, List.append_toArray, List.nil_append, List.cons_append]
    gi_wp2_with fail
    refine HR.out.mono ?_
    rintro e W3 (⟨rfl, e33, hh3⟩ | ⟨rfl, hJx⟩)
    · -- the round goes on: the Kids
      obtain ⟨hk3, hW3, ed3⟩ := hh3.out
      have hdbX : ¬ X (W.heap.size + 1) := hnx1
      have HC := Lib.hid (containsFunc_any 65 #[.pointer (some ⟨wb, 0, none⟩), .pointer (some ⟨W.heap.size + 1, 0, none⟩)] enters_kid Ac cs.length cc b o G0 G1 G2 G3
        (fun i V => ∃ q : List (NodeX B w0), projX q = nodesLs (d + 1) (cs.take i) ∧ WalkAt w0 n₀ N l X J yb wb (pre ++ [x] ++ q) V ∧ KpX X W3 V ∧ V.cell? ⟨W.heap.size + 1, 0, none⟩ = some (.int .i64 d))
        (fun V => ∃ q : List (NodeX B w0), projX q <+: nodesLs (d + 1) cs ∧ Jx (pre ++ [x] ++ q) V)
        (by omega) (fun h => (hA h).1)
        (fun i V ⟨q, _, hV, _, _⟩ hi => ⟨hV.stay _ _ _ (hA (by omega)).2 (c0 i hi), hV.stay _ _ _ (hA (by omega)).2 (c1 i hi), hV.stay _ _ _ (hA (by omega)).2 (c2 i hi), hV.stay _ _ _ (hA (by omega)).2 (c3 i hi)⟩)
        (fun i V ⟨q, hq, hV, hkV, edV⟩ hi => by
          have hg := hgtL_get hi
          have hql := congrArg List.length hq
          rw [projX_length] at hql
          have htk := nodesLs_take (d + 1) hi
          have hle := (nodesLs_take_le (d + 1) cs (i + 1)).length_le
          rw [htk, List.length_append] at hle
          refine (kid_any hJ cs[i] _ _ _ _ (ih i hi) d hd0 (by omega) (W.heap.size + 1) _ V hV (by simp; omega) edV).mono ?_
          rintro e V' (⟨rfl, r, hr, hJr, hkr⟩ | ⟨rfl, r, hr, hJr⟩)
          · refine .inl ⟨rfl, q ++ r, by rw [projX_append, hq, hr, htk], ?_, hkV.trans hkr, hkr.cell edV hdbX⟩
            exact hV.step hX hyb hwb hkr (by rw [← List.append_assoc]; exact hJr)
          · refine .inr ⟨rfl, q ++ r, ?_, by rw [← List.append_assoc]; exact hJr⟩
            rw [projX_append, hq]
            refine List.IsPrefix.trans ?_ (nodesLs_take_le (d + 1) cs (i + 1))
            rw [htk]
            exact (List.prefix_append_right_inj _).2 hr)
        W3 ⟨[], by simp [projX, nodesLs], by rw [List.append_nil]; exact hW3, KpX.refl _ _, ed3⟩)
      clear ih hY hW3 ed3 hh3 HR hy e0 e1 e2 e3 ed hyc c0 c1 c2 c3 hsub hin
      gi_wp2_with (refine ⟨trivial, ?_⟩; gi_at_call 64; refine (callsIn_wide.2 HC.out).mono ?_; rintro e W4 (⟨rfl, q, hq, hV, hkV, _⟩ | ⟨rfl, q, hq, hJq⟩))
      · go_ret
        rw [List.take_of_length_le (Nat.le_refl _)] at hq
        exact .inl ⟨rfl, x :: q, by simp [projX] at hq ⊢; exact ⟨⟨hxd, hxt⟩, hq⟩, by have := hV.inv; simpa using this, hk3.trans hkV⟩
      · go_ret
        exact .inr ⟨rfl, x :: q, by
          have : projX (x :: q) = (d, .mk k n ks cs) :: projX q := by simp [projX, hxd, hxt]
          rw [this]; exact List.cons_prefix_cons.2 ⟨rfl, hq⟩, by simpa using hJq⟩
    · clear ih hY HR hy e0 e1 e2 e3 ed hyc c0 c1 c2 c3 hsub hin
      gi_wp2_with fail
      refine ⟨trivial, ?_⟩
      gi_wp2_with fail
      go_ret
      exact .inr ⟨rfl, [x], by simp [projX, hxd, hxt], by simpa using hJx⟩

theorem enters_all1 : ∀ args w, (callFunc 62 args).run Tryd.prog w = .ok (.enter 62 args) w := enters_of Tryd.func62 (by kernel_rfl) rfl

set_option maxRecDepth 100000 in
set_option maxHeartbeats 1000000 in
/-- **'core.all(c)' hands back a value that gives the term's nodes in order.** -/
theorem all_stops {B : Nat} {w0 : World} {t : Core} {v : Array Value} (hin : CoreIn B w0 t v) (hh : 1 + (t.hgt : Int) ≤ 60000) (X : Nat → Prop) (cb : Nat) (w : World) (hX : ∀ k, X k → B ≤ k ∧ k < w.heap.size) (hB : B ≤ w.heap.size) (hstay : Stay B w0 w)
    {c0 c1 c2 c3 : Value} (hv : v = #[c0, c1, c2, c3]) (hcb : ¬ X cb) (e0 : w.cell? ⟨cb, 0, none⟩ = some c0) (e1 : w.cell? ⟨cb, 1, none⟩ = some c1) (e2 : w.cell? ⟨cb, 2, none⟩ = some c2) (e3 : w.cell? ⟨cb, 3, none⟩ = some c3) (n : Nat) :
    SeqStopsK Fence.wide n Tryd.prog 62 #[.pointer (some ⟨cb, 0, none⟩)] (fun x : NodeX B w0 => #[.int .i64 x.d, .agg x.v]) (KpX X) (fun xs => projX xs = nodesL 1 t) (fun pre => projX pre <+: nodesL 1 t) (nodesL 1 t).length w := by
  intro l J Jx W hW hJ hJx hY h0
  subst hv
  have hcbl : cb < w.heap.size := World.block_lt_of_cell? _ _ e0
  have f0 := (hW.cell (p := ⟨_, _, none⟩) hcbl).trans e0
  have f1 := (hW.cell (p := ⟨_, _, none⟩) hcbl).trans e1
  have f2 := (hW.cell (p := ⟨_, _, none⟩) hcbl).trans e2
  have f3 := (hW.cell (p := ⟨_, _, none⟩) hcbl).trans e3
  have hws := hW.size
  obtain ⟨W1, hW1⟩ : ∃ W1, W.alloc (.cells #[.func (.yield l) #[] #[]] 121) = W1 := ⟨_, rfl⟩
  obtain ⟨W2, hW2⟩ : ∃ W2, W1.alloc (.cells #[.func (.func 63) #[] #[.pointer (some ⟨W.heap.size, 0, none⟩), .pointer (some ⟨W.heap.size + 1, 0, none⟩)]] 122) = W2 := ⟨_, rfl⟩
  have hs1 : W1.heap.size = W.heap.size + 1 := by rw [← hW1]; simp
  have hk2 : KpX X W W2 := by rw [← hW2, ← hW1]; exact (KpX.alloc X _ _).trans (KpX.alloc X _ _)
  have hJ2 : J [] W2 := by rw [← hW2, ← hW1]; exact hJ _ _ _ none (hJ _ _ _ none h0 (World.grownBy_alloc _ _ none) (fun r e => by cases e)) (World.grownBy_alloc _ _ none) (fun r e => by cases e)
  have hyc : W2.cell? ⟨W.heap.size, 0, none⟩ = some (.func (.yield l) #[] #[]) := by rw [← hW2, World.cell?_alloc_past _ _ _ (by rw [hs1]; simp), ← hW1, World.cell?_alloc_at _ _ _ _ rfl]; rfl
  have hwc : W2.cell? ⟨W.heap.size + 1, 0, none⟩ = some (.func (.func 63) #[] #[.pointer (some ⟨W.heap.size, 0, none⟩), .pointer (some ⟨W.heap.size + 1, 0, none⟩)]) := by rw [← hW2, World.cell?_alloc_at _ _ _ _ hs1.symm]; rfl
  have g0 := hk2.cell f0 hcb
  have g1 := hk2.cell f1 hcb
  have g2 := hk2.cell f2 hcb
  have g3 := hk2.cell f3 hcb
  have hwalk : WalkOk w0 W.heap.size (nodesL 1 t).length l X J Jx W.heap.size (W.heap.size + 1) t #[c0, c1, c2, c3] :=
    walk_ok (by omega) (fun k hx => ⟨(hX k hx).1, by have := (hX k hx).2; omega⟩) (Nat.le_refl _) (by omega) hJ
      (fun m pre x V hj hl => by
        obtain ⟨fn, tmps, assign, body, hy, hR⟩ := hY pre x V hj hl
        exact ⟨fn, tmps, assign, body, hy, hR.1, fun c cs _ => hR.2 c cs (room_wide _)⟩) hin
  have HC := Lib.hid (hwalk 1 [] W2 (by omega) hh ⟨hstay.trans ((Stay.of_below (below_of hW hB)).trans (Stay.step (Stay.refl B W) hk2 (fun k hx => (hX k hx).1))), by rw [← hW2]; simp; omega, hyc, hwc, hJ2⟩ (by simp))
  have hset : (W1.alloc (.cells #[.nilFunc] 122)).setCell ⟨W.heap.size + 1, 0, none⟩ (.func (.func 63) #[] #[.pointer (some ⟨W.heap.size, 0, none⟩), .pointer (some ⟨W.heap.size + 1, 0, none⟩)]) = W2 := by
    rw [← hW2]; exact World.setCell_alloc_at _ _ _ _ _ hs1.symm
  have HS := Lib.hid hset
  clear hset hwalk hY hJ hJx hin hJ2
  refine callsIn_wide.2 ?_
  show Calls Tryd.prog 62 #[.func (.yield l) #[] #[], .pointer (some ⟨cb, 0, none⟩)] W _
  go_enter Tryd.func62, Tryd.ntmps62
  go_wp2_with fail
  refine HC.out.mono ?_
  rintro e w' (⟨rfl, q, hq, hJq, _⟩ | ⟨rfl, q, hq, hJq⟩)
  · go_wp2_with fail
    go_end0
    exact ⟨⟨_, rfl⟩, .inl ⟨q, hq, by simpa using hJq⟩⟩
  · go_wp2_with fail
    go_end0
    exact ⟨⟨_, rfl⟩, .inr ⟨q, hq, by simpa using hJq⟩⟩

/-- 'core.all(c)' -/
theorem all_any (v : Array Value) {c0 c1 c2 c3 : Value} (hv : v = #[c0, c1, c2, c3]) (w : World) :
    Calls Tryd.prog 34 #[.agg v] w fun e w' => e = .returned (.func (.func 62) #[] #[.pointer (some ⟨w.heap.size, 0, none⟩)]) ∧ w' = w.alloc (.cells #[c0, c1, c2, c3] 26) := by
  subst hv
  go_enter Tryd.func34, Tryd.ntmps34
  go_wp2_with fail
  go_ret
  exact ⟨rfl, rfl⟩

end Go.Proofs.YtnolhcdfknjncaaDoor
