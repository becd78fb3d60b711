/-
  core.Right: what is wrong first with a core term.
-/
import Derived.Test.YtnolhcdfknjncaaDoorR4
set_option linter.unusedVariables false
set_option linter.unusedSimpArgs false
namespace Go.Proofs.YtnolhcdfknjncaaDoor
open Go.RowKit Go.Shelf

attribute [local go_sem] Oper.semAt_some

/-- the first error of nodes, so many standing ahead of them -/
def firstE (ahead : Int) : List (Int × Core) → Int
  | [] => 0
  | x :: l => if nodeE ahead x.1 x.2.k x.2.n x.2.ks x.2.cs.length ≠ 0 then nodeE ahead x.1 x.2.k x.2.n x.2.ks x.2.cs.length else firstE (ahead + 1) l
def rightE (t : Core) : Int := firstE 0 (nodesL 1 t)

theorem firstE_snoc (l : List (Int × Core)) (x : Int × Core) (a : Int) (h : firstE a l = 0) : firstE a (l ++ [x]) = nodeE (a + l.length) x.1 x.2.k x.2.n x.2.ks x.2.cs.length := by
  induction l generalizing a with
  | nil => simp [firstE]; intro h; exact h.symm
  | cons y l ih =>
    simp only [firstE, List.cons_append, List.length_cons] at h ⊢
    by_cases hy : nodeE a y.1 y.2.k y.2.n y.2.ks y.2.cs.length = 0
    · rw [if_neg (by simp [hy])] at h ⊢
      rw [ih _ h]; congr 1; push_cast; omega
    · rw [if_pos hy] at h; exact absurd h hy
theorem firstE_prefix {l m : List (Int × Core)} (h : l <+: m) {a : Int} (hl : firstE a l ≠ 0) : firstE a m = firstE a l := by
  obtain ⟨r, rfl⟩ := h
  induction l generalizing a with
  | nil => simp [firstE] at hl
  | cons y l ih =>
    simp only [firstE, List.cons_append] at hl ⊢
    by_cases hy : nodeE a y.1 y.2.k y.2.n y.2.ks y.2.cs.length = 0
    · rw [if_neg (by simp [hy])] at hl ⊢
      rw [if_neg (by simp [hy]), ih hl]
    · rw [if_pos hy, if_pos hy]
theorem firstE_le (l : List (Int × Core)) (a : Int) (ha : 0 ≤ a ∧ a ≤ 65536) (h : firstE a l = 0) : a + l.length ≤ 65536 := by
  induction l generalizing a with
  | nil => simp; omega
  | cons y l ih =>
    simp only [firstE, List.length_cons] at h ⊢
    by_cases hy : nodeE a y.1 y.2.k y.2.n y.2.ks y.2.cs.length = 0
    · rw [if_neg (by simp [hy])] at h
      have ha' : a < 65536 := by
        rcases Int.lt_or_le a 65536 with h' | h'
        · exact h'
        · unfold nodeE at hy; rw [if_pos h'] at hy; simp at hy
      have := ih (a + 1) (by omega) h
      push_cast at this ⊢; omega
    · rw [if_pos hy] at h; exact absurd h hy

theorem keepsOthers_of_below {W W' : World} (h : Below W.heap.size W W') : KeepsOthers W W' := ⟨h.size, fun k o hk _ => (h.block k (Array.getElem?_eq_some_iff.1 hk).1).trans hk⟩

theorem boxed_below {W W' : World} {B : Nat} {t : TypeId} {v : Value} (h : Boxed W B t v) (hb : Below W.heap.size W W') : Boxed W' B t v := (hb.block B h.lt).trans h

set_option maxRecDepth 100000 in
set_option maxHeartbeats 2000000 in
theorem right_any {B : Nat} {t : Core} {v : Array Value} (w : World) (hin : CoreIn B w t v) (hB : B ≤ w.heap.size) (hg : 0 < B) (ht : TabIn w) (hh : 1 + (t.hgt : Int) ≤ 60000) :
    Calls Tryd.prog 23 #[.agg v] w fun e w' => e = .returned (.int .i64 (rightE t)) ∧ Below w.heap.size w w' := by
  obtain ⟨k, n, ks, cs, Ak, ck, Ac, cc, b, o, G0, G1, G2, G3, -, rfl, -⟩ := hin.open_
  refine (callsIn_wide (n := 3)).1 ?_
  refine callsIn_of_wp_marks Tryd.func23 rfl trivial ?_ rfl
  simp only [Tryd.ntmps23, List.size_toArray, List.length_cons, List.length_nil, Nat.reduceAdd, Nat.reduceSub, Array.replicate_succ, Array.replicate_zero, List.push_toArray, List.append_toArray, List.nil_append, List.cons_append]
  gi_wp2_with (refine ⟨trivial, ?_⟩; gi_at_call 34; refine (callsIn_wide.2 (all_any _ rfl _)).mono ?_; rintro e w' ⟨rfl, rfl⟩)
  obtain ⟨WL, hWL⟩ : ∃ WL, ((((w.alloc (Obj.cells #[Value.int IntKind.i64 k, Value.int IntKind.i64 n, Value.slice Ak ks.length ck, Value.slice Ac cs.length cc] 26)).alloc (Obj.cells #[Value.int IntKind.i64 0] 39)).alloc (Obj.cells #[Value.int IntKind.i64 0] 3)).alloc
      (Obj.cells #[Value.int IntKind.i64 k, Value.int IntKind.i64 n, Value.slice Ak ks.length ck, Value.slice Ac cs.length cc] 26)) = WL := ⟨_, rfl⟩
  have hsz : WL.heap.size = w.heap.size + 4 := by rw [← hWL]; simp
  have hbL : Below w.heap.size w WL := by rw [← hWL]; exact ((((Below.refl _ w).alloc (by simp) _).alloc (by simp) _).alloc (by simp <;> omega) _).alloc (by simp <;> omega) _
  have bn : Boxed WL (w.heap.size + 2) 3 (.int .i64 0) := by
    rw [← hWL]; refine Boxed.alloc ?_ _
    have := Boxed.new ((w.alloc (Obj.cells #[Value.int IntKind.i64 k, Value.int IntKind.i64 n, Value.slice Ak ks.length ck, Value.slice Ac cs.length cc] 26)).alloc (Obj.cells #[Value.int IntKind.i64 0] 39)) 3 (.int .i64 0)
    simpa using this
  have br : Boxed WL (w.heap.size + 1) 39 (.int .i64 0) := by
    rw [← hWL]; exact (Boxed.alloc (by have := Boxed.new (w.alloc (Obj.cells #[Value.int IntKind.i64 k, Value.int IntKind.i64 n, Value.slice Ak ks.length ck, Value.slice Ac cs.length cc] 26)) 39 (.int .i64 0); simpa using this) _).alloc _
  have e0 : WL.cell? ⟨w.heap.size + 3, 0, none⟩ = some (.int .i64 k) := by rw [← hWL, World.cell?_alloc_at _ _ _ _ (by simp)]; rfl
  have e1 : WL.cell? ⟨w.heap.size + 3, 1, none⟩ = some (.int .i64 n) := by rw [← hWL, World.cell?_alloc_at _ _ _ _ (by simp)]; rfl
  have e2 : WL.cell? ⟨w.heap.size + 3, 2, none⟩ = some (.slice Ak ks.length ck) := by rw [← hWL, World.cell?_alloc_at _ _ _ _ (by simp)]; rfl
  have e3 : WL.cell? ⟨w.heap.size + 3, 3, none⟩ = some (.slice Ac cs.length cc) := by rw [← hWL, World.cell?_alloc_at _ _ _ _ (by simp)]; rfl
  rw [hWL]
  clear hWL
  refine wpIn_rangeFunc_ownH rfl (by omega) (gf := 62) (lb := #[.pointer (some ⟨w.heap.size + 3, 0, none⟩)]) rfl trivial enters_all1
    (all_stops hin hh (fun b => b = w.heap.size + 1 ∨ b = w.heap.size + 2) (w.heap.size + 3) WL (by omega) (by omega) (Stay.of_below (hbL.mono hB)) rfl (by omega) e0 e1 e2 e3 2)
    KpX.trans (fun W l o o' _ h ho _ => KpX.putObj W l o o' h ho) (Below.refl _ _) (fun _ => rfl)
    (fun pre W => ((Boxed W (w.heap.size + 2) 3 (.int .i64 (pre.length : Int)) ∧ Boxed W (w.heap.size + 1) 39 (.int .i64 0)) ∧ firstE 0 (projX pre) = 0) ∧ Below w.heap.size w W)
    (fun c pre W => (c = .ret ∧ Boxed W (w.heap.size + 1) 39 (.int .i64 (firstE 0 (projX pre))) ∧ firstE 0 (projX pre) ≠ 0) ∧ Below w.heap.size w W)
    (OwnFrom.and (OwnFrom.and (OwnFrom.and (Own.from (boxed_own _ _ _) _) (Own.from (boxed_own _ _ _) _)) (ownFrom_pure _ _)) (ownFrom_below (Nat.le_refl _) (by omega)))
    (fun c => OwnFrom.and (OwnFrom.and (ownFrom_pure _ _) (OwnFrom.and (Own.from (boxed_own _ _ _) _) (ownFrom_pure _ _))) (ownFrom_below (Nat.le_refl _) (by omega)))
    ⟨⟨⟨bn, br⟩, rfl⟩, hbL⟩
    (fun x a' W => ∃ Bx : Nat, W.heap[Bx]? = some (.cells x.v 26 (0, 0)) ∧ a' = { tmps := #[.agg #[Value.int IntKind.i64 k, Value.int IntKind.i64 n, Value.slice Ak ks.length ck, Value.slice Ac cs.length cc], .pointer (some ⟨w.heap.size, 0, none⟩), .pointer (some ⟨w.heap.size + 1, 0, none⟩), .pointer (some ⟨w.heap.size + 1 + 1, 0, none⟩), .int .i64 x.d, .pointer (some ⟨Bx, 0, none⟩), undef,
        .agg #[Value.int IntKind.i64 k, Value.int IntKind.i64 n, Value.slice Ak ks.length ck, Value.slice Ac cs.length cc], .func (.func 62) #[] #[.pointer (some ⟨w.heap.size + 1 + 1 + 1, 0, none⟩)], .int .i64 x.d, .agg x.v, undef, undef, undef, undef, undef, undef, undef, undef, undef], defers := [] })
    (fun x a' u A C row ⟨Bx, h2, h3⟩ hgr hr => ⟨Bx, (hgr.block Bx (Array.getElem?_eq_some_iff.1 h2).1 (fun e => by obtain ⟨_, o, ho, hc⟩ := hr Bx e.symm; rw [h2] at ho; cases ho; cases hc)).trans h2, h3⟩)
    ?assign ?body ?done ?stop
  case assign =>
    rintro l pre ⟨d, t', v', hin', hd'⟩ W K ⟨⟨⟨bn', br'⟩, hf⟩, hbW⟩ hK
    obtain ⟨k', n', ks', cs', Ak', ck', Ac', cc', b', o', G0', G1', G2', G3', rfl, rfl, -⟩ := hin'.open_
    gi_wp2
    exact hK _ _ ((KeepsOthers.alloc _ _).from _) (KpX.alloc _ _ _) ⟨⟨⟨bn'.alloc _, br'.alloc _⟩, hf⟩, hbW.alloc hbW.size _⟩ ⟨W.heap.size, World.alloc_heap_new W _, rfl⟩
  case body =>
    rintro l pre ⟨d, t', v', hin', hd'⟩ a' W hl hr ⟨⟨⟨bn', br'⟩, hf⟩, hbW⟩ ⟨Bx, hx, rfl⟩ hlen
    obtain ⟨k', n', ks', cs', Ak', ck', Ac', cc', b', o', G0', G1', G2', G3', rfl, rfl, hks', hck', hcc', hkids'⟩ := hin'.open_
    dsimp only at hx ⊢
    have x0 : W.cell? ⟨Bx, 0, none⟩ = some (.int .i64 k') := by simp [World.cell?, hx]
    have x1 : W.cell? ⟨Bx, 1, none⟩ = some (.int .i64 n') := by simp [World.cell?, hx]
    have x2 : W.cell? ⟨Bx, 2, none⟩ = some (.slice Ak' ks'.length ck') := by simp [World.cell?, hx]
    have x3 : W.cell? ⟨Bx, 3, none⟩ = some (.slice Ac' cs'.length cc') := by simp [World.cell?, hx]
    have hws := hbW.size
    have hle := firstE_le (projX pre) 0 (by omega) hf
    rw [projX_length] at hle
    have hst : Stay B w W := Stay.of_below (hbW.mono hB)
    have hnode := node_any (pre.length : Int) d k' n' Ak' Ac' ck' cs'.length cc' ks' B W (ht.kept hg (hbW.mono hB)) (by omega) (hks'.stay hst) (by omega) hck' (by have := hkids'.hcl; omega)
    have hsn := firstE_snoc (projX pre) (d, .mk k' n' ks' cs') 0 hf
    have hpr : projX (pre ++ [(⟨d, .mk k' n' ks' cs', _, hin', hd'⟩ : NodeX B w)]) = projX pre ++ [(d, .mk k' n' ks' cs')] := by simp [projX]
    rw [← hpr] at hsn
    simp only [projX_length, Core.k, Core.n, Core.ks, Core.cs, Int.zero_add] at hsn
    obtain ⟨e0, he0⟩ : ∃ e0, nodeE (pre.length : Int) d k' n' ks' cs'.length = e0 := ⟨_, rfl⟩
    rw [he0] at hnode hsn
    obtain ⟨NP, hNP⟩ : ∃ NP : List (NodeX B w), NP = pre ++ [(⟨d, .mk k' n' ks' cs', _, hin', hd'⟩ : NodeX B w)] := ⟨_, rfl⟩
    rw [← hNP] at hsn ⊢
    have hNl : (NP.length : Int) = pre.length + 1 := by rw [hNP]; simp
    have HS := Lib.hid hsn
    have HL := Lib.hid hNl
    have HN := Lib.hid hnode
    have r1 := bn'.cell
    have r2 := bn'.frozen
    have r3 := br'.cell
    have r4 := br'.frozen
    have hcells : ∀ W1, Below W.heap.size W W1 → W1.cell? ⟨w.heap.size + 1 + 1, 0, none⟩ = some (.int .i64 (pre.length : Int)) ∧ W1.frozen? ⟨w.heap.size + 1 + 1, 0, none⟩ = false ∧ W1.cell? ⟨w.heap.size + 1, 0, none⟩ = some (.int .i64 0) ∧ W1.frozen? ⟨w.heap.size + 1, 0, none⟩ = false :=
      fun W1 hb1 => ⟨(hb1.cell (p := ⟨_, _, none⟩) (by show _ + 1 + 1 < _; have := bn'.lt; omega)).trans r1, (hb1.frozen (p := ⟨_, _, none⟩) (by show _ + 1 + 1 < _; have := bn'.lt; omega)).trans r2, (hb1.cell (p := ⟨_, _, none⟩) (by show _ + 1 < _; have := br'.lt; omega)).trans r3, (hb1.frozen (p := ⟨_, _, none⟩) (by show _ + 1 < _; have := br'.lt; omega)).trans r4⟩
    have HC := Lib.hid hcells
    clear hsn hNl hnode hf he0 hpr hcells
    by_cases hz : e0 = 0
    · subst hz
      gi_wp2_with (refine ⟨trivial, ?_⟩; gi_at_call 35; refine (CallsIn.inRound l (callsIn_wide.2 HN.out)).mono ?_; rintro e W1 ⟨rfl, hb1⟩; obtain ⟨q1, q2, q3, q4⟩ := HC.out W1 hb1)
      have b1 := (boxed_below bn' hb1).set (.int .i64 ((pre.length : Int) + 1))
      have b2 := (boxed_below br' hb1).other (B' := w.heap.size + 2) (by omega) (.int .i64 ((pre.length : Int) + 1))
      exact ⟨((keepsOthers_of_below hb1).trans (KeepsOthers.setCell _ _ _)).from _, (KpX.below hb1).trans (KpX.setCell _ 0 _ (.inr rfl)), ⟨⟨by rw [HL.out]; exact b1, b2⟩, HS.out⟩, (below_then hbW hws hb1).setCell (p := ⟨_, _, none⟩) (by show _ ≤ _ + 1 + 1; omega) _⟩
    · have hz' : (e0 == 0) = false := by simpa using hz
      have hz'' : (e0 != 0) = true := by simpa using hz
      gi_wp2_with (refine ⟨trivial, ?_⟩; gi_at_call 35; refine (CallsIn.inRound l (callsIn_wide.2 HN.out)).mono ?_; rintro e W1 ⟨rfl, hb1⟩; obtain ⟨q1, q2, q3, q4⟩ := HC.out W1 hb1)
      have b2 := (boxed_below br' hb1).set (.int .i64 e0)
      exact ⟨((keepsOthers_of_below hb1).trans (KeepsOthers.setCell _ _ _)).from _, ⟨rfl, by rw [HS.out]; exact b2, by rw [HS.out]; exact hz⟩, (below_then hbW hws hb1).setCell (p := ⟨_, _, none⟩) (by show _ ≤ _ + 1; omega) _⟩
  case done =>
    rintro D xs W hD hS ⟨⟨⟨bn', br'⟩, hf⟩, hbW⟩ hK
    have r1 := br'.cell
    have r2 := br'.frozen
    have hsz' := hbW.size
    have HF := Lib.hid hf
    have HS := Lib.hid hS
    clear hf hS
    gi_wp2
    have hK2 := (KeepsOthers.setCell W ⟨w.heap.size + 1, 0, none⟩ (.int .i64 0)).same D _ hK rfl
    refine ⟨by simp, .inl ⟨_, _, rfl, run_takeDeferred hK2, ?_⟩⟩
    have br2 := (br'.set (.int .i64 0)).kept (grownBy_putObj' _ D (.deferred none)) (by intro e; cases e; omega)
    have c2 := br2.cell
    refine ⟨.int .i64 0, by simp [results, Tryd.results23, go_sem, c2], ret_int ?_, ?_⟩
    · unfold rightE; rw [← HS.out]; exact HF.out.symm
    · exact (hbW.setCell (p := ⟨_, _, none⟩) (by show _ ≤ _ + 1; omega) _).trans (belowK_b (w := w) (Nat.le_refl _) _ D _ _ (by omega) hK2 rfl rfl)
  case stop =>
    rintro D c pre W hD hS ⟨⟨rfl, br', hf⟩, hbW⟩ hK
    have r1 := br'.cell
    have HF := Lib.hid hf
    have HS := Lib.hid hS
    clear hf hS
    gi_wp2
    refine ⟨by simp, .inl ⟨_, _, rfl, run_takeDeferred hK, ?_⟩⟩
    have br2 := br'.kept (grownBy_putObj' W D (.deferred none)) (by intro e; cases e; omega)
    have c2 := br2.cell
    refine ⟨.int .i64 (firstE 0 (projX pre)), by simp [results, Tryd.results23, go_sem, c2], ret_int ?_, ?_⟩
    · unfold rightE; exact (firstE_prefix HS.out HF.out).symm
    · exact hbW.trans (belowK_b (w := w) (Nat.le_refl _) W D _ _ (by omega) hK rfl rfl)

end Go.Proofs.YtnolhcdfknjncaaDoor
