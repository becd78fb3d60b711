/-
 3 texts of this seat in one: FV32 FV33 FV34.
-/
import Derived.Test.YtnobggabjpcbfaaGreatQI28
set_option maxRecDepth 100000
set_option maxHeartbeats 16000000
set_option linter.unusedVariables false
set_option linter.unusedSimpArgs false
namespace Go.Proofs.YtnobggabjpcbfaaGreat
open Go.RowKit
section
variable {X Y : Nat → Prop} {B mb cb n : Nat} {p : FlatP} {fv : Value} {inp : List Int} {fuel : FL} {s s1 : FSt} {cut stk rai : Bool} {x0 x1 x2 : Value} {W W' W1 W2 V0 w : World} {o : FOut}
structure AftR (X : Nat → Prop) (B mb cb : Nat) (fv : Value) (inp : List Int) (fuel : FL) (s : FSt) (W : World) (k nn : Int) (Ak Al : Option Addr) (lk ck lb cbl : Nat) (vs : List PV) (e : PEnv) (pv : Value) (w : World) (A : Option Addr) (d : Nat) : Prop where
 bel : Below W.heap.size W w
 sz : W.heap.size + 1 < w.heap.size
 go_ : RGo (Bx X (W.heap.size + 1)) B mb cb fv inp fuel s w
 hX : ∀ k, Bx X (W.heap.size + 1) k → k < w.heap.size
 env : EIn (Bx X (W.heap.size + 1)) s.made.length s.cells.length w e pv
 row : VRow (Bx X (W.heap.size + 1)) s.made.length s.cells.length w A vs
 cap : vs.length ≤ d
 q0 : w.cell? ⟨W.heap.size, 0, none⟩ = some (.int .i64 k)
 q1 : w.cell? ⟨W.heap.size, 1, none⟩ = some (.int .i64 nn)
 q3 : w.cell? ⟨W.heap.size, 3, none⟩ = some (.slice Ak lk ck)
 q4 : w.cell? ⟨W.heap.size, 4, none⟩ = some (.slice Al lb cbl)
 box : w.heap[W.heap.size + 1]? = some (.cells #[.int .i64 0, .int .i64 0, .slice none 0 0] 46 (0, 0))
theorem frameR2 (h : RGo X B mb cb fv inp fuel s W) (hX : ∀ k, X k → k < W.heap.size) {k nn : Int} {ats : List Atm} {Aa Ak Al : Option Addr} {ca lk ck lb cbl : Nat} {e : PEnv} {pv : Value} (he : EIn X s.made.length s.cells.length W e pv) (ha : AtomsIn B W Aa ats) (hs : ats.length ≤ 1000000) {vs : List PV} (hvs : atomsP e ats = some vs)
 (V0 : World) (hV0 : (W.alloc (.cells #[.int .i64 k, .int .i64 nn, .slice Aa ats.length ca, .slice Ak lk ck, .slice Al lb cbl] 60)).alloc (.cells #[.int .i64 0, .int .i64 0, .slice none 0 0] 46) = V0) :
 Calls Tryz.prog 52 #[.slice Aa ats.length ca, pv] V0 (fun en w => ∃ A d, en = .returned (.tuple #[.slice A vs.length d, .bool true]) ∧ AftR X B mb cb fv inp fuel s W k nn Ak Al lk ck lb cbl vs e pv w A d) ∧ V0.cell? ⟨W.heap.size, 2, none⟩ = some (.slice Aa ats.length ca) := by
 obtain ⟨hb0, hq, hbx, hg0, hsz, hXV, hE, hA⟩ := frameR h hX he ha hs V0 hV0
 refine ⟨hA.mono fun en w (hp : AtPost (Bx X (W.heap.size + 1)) s.made.length s.cells.length V0 (atomsP e ats) en w) => ?_, cell_block hq rfl⟩
 obtain ⟨hw, h1 | h1⟩ := hp
 · obtain ⟨vs', A, d, h2, h3, h4, h5⟩ := h1
   rw [hvs] at h2; cases h2
   have hq' := (hw.block _ (by omega)).trans hq
   have := hw.size
   exact ⟨A, d, h3, hb0.trans (hw.mono hb0.size), by omega, hg0.below hw, fun k hk => by have := hXV k hk; omega, hE.step (KpX.below hw) (Nat.le_refl _) (Nat.le_refl _), h5, h4, cell_block hq' rfl, cell_block hq' rfl, cell_block hq' rfl, cell_block hq' rfl, (hw.block _ hsz).trans hbx⟩
 · rw [hvs] at h1; cases h1.1
section
variable {k nn : Int} {Ak Al A : Option Addr} {lk ck lb cbl d : Nat} {vs : List PV} {e : PEnv} {pv : Value}
theorem AftR.retB (a : AftR X B mb cb fv inp fuel s W k nn Ak Al lk ck lb cbl vs e pv w A d) (h : RGo X B mb cb fv inp fuel s W) {V W' : World} (hw : Below w.heap.size w V) {fuel' : FL} {en : Ending} (hp : ROut (Bx X (W.heap.size + 1)) B mb cb fv inp fuel' s o V en W') :
 ∃ k n A l d, en = .returned (.agg #[.int .i64 k, .int .i64 n, .slice A l d]) ∧ (W'.cell? ⟨W.heap.size + 1, 0, none⟩ = some (.int .i64 0) ∧ W'.cell? ⟨W.heap.size + 1, 1, none⟩ = some (.int .i64 0) ∧ W'.cell? ⟨W.heap.size + 1, 2, none⟩ = some (.slice none 0 0) ∧ (∀ i, W'.frozen? ⟨W.heap.size + 1, i, none⟩ = false)) ∧
  ROut X B mb cb fv inp fuel' s o W (.returned (.agg #[.int .i64 k, .int .i64 n, .slice A l d])) (((W'.setCell ⟨W.heap.size + 1, 0, none⟩ (.int .i64 k)).setCell ⟨W.heap.size + 1, 1, none⟩ (.int .i64 n)).setCell ⟨W.heap.size + 1, 2, none⟩ (.slice A l d)) :=
 ROut.box (X := X) (W := W) (b := W.heap.size + 1) h.hX h.hBW (own_lt h) (Nat.le_succ _) ((hw.block _ a.sz).trans a.box) (Stp.below (a.bel.trans (hw.mono (by have := a.sz; omega))) h.hBW) ⟨Nat.le_refl _, Nat.le_refl _⟩ hp
end
theorem rrhs_close (h : RGo X B mb cb fv inp fuel s W) (hlim : fuel.lim < fuel.f) (hX : ∀ k, X k → k < W.heap.size) {nn : Int} {ats : List Atm} {Aa Ak Al : Option Addr} {ca lk ck lb cbl : Nat} {e : PEnv} {pv : Value} (he : EIn X s.made.length s.cells.length W e pv) (ha : AtomsIn B W Aa ats) (hs : ats.length ≤ 1000000) {vs : List PV} (hvs : atomsP e ats = some vs) :
 Calls Tryz.prog 50 #[.pointer (some ⟨cb, 0, none⟩), .agg #[.int .i64 9, .int .i64 nn, .slice Aa ats.length ca, .slice Ak lk ck, .slice Al lb cbl], pv] W (ROut X B mb cb fv inp fuel.up s (Res.val (PV.fn s.made.length), { s with made := s.made ++ [(nn, vs)] }) W) := by
 generalize hV0 : (W.alloc (.cells #[.int .i64 9, .int .i64 nn, .slice Aa ats.length ca, .slice Ak lk ck, .slice Al lb cbl] 60)).alloc (.cells #[.int .i64 0, .int .i64 0, .slice none 0 0] 46) = V0
 obtain ⟨hA, q2⟩ := frameR2 (k := 9) (nn := nn) h hX he ha hs hvs V0 hV0
 obtain ⟨o, ho⟩ : ∃ o, ((Res.val (PV.fn s.made.length), { s with made := s.made ++ [(nn, vs)] }) : FOut) = o := ⟨_, rfl⟩
 rw [ho]
 have hB := h.hBW
 have hfu : fuel.lim + 1 ≤ fuel.f := hlim
 have hfB := h.fnsB
 have hvl := atomsP_len _ _ hvs
 have HA := Lib.hid (hA.mono fun en w (hp : ∃ A d, en = .returned (.tuple #[.slice A vs.length d, .bool true]) ∧ AftR X B mb cb fv inp fuel s W 9 nn Ak Al lk ck lb cbl vs e pv w A d) => (show ∃ A d, en = .returned (.tuple #[.slice A vs.length d, .bool true]) ∧ w.cell? ⟨W.heap.size, 0, none⟩ = some (.int .i64 9) ∧ w.cell? ⟨W.heap.size, 1, none⟩ = some (.int .i64 nn) ∧ Calls Tryz.prog 68 #[.pointer (some ⟨cb, 0, none⟩), .agg #[.int .i64 nn, .slice A vs.length d]] w (fun e' w' => ∃ k n A l d, e' = .returned (.agg #[.int .i64 k, .int .i64 n, .slice A l d]) ∧ (w'.cell? ⟨W.heap.size + 1, 0, none⟩ = some (.int .i64 0) ∧ w'.cell? ⟨W.heap.size + 1, 1, none⟩ = some (.int .i64 0) ∧ w'.cell? ⟨W.heap.size + 1, 2, none⟩ = some (.slice none 0 0) ∧ (∀ i, w'.frozen? ⟨W.heap.size + 1, i, none⟩ = false)) ∧ ROut X B mb cb fv inp fuel.up s o W (.returned (.agg #[.int .i64 k, .int .i64 n, .slice A l d])) (((w'.setCell ⟨W.heap.size + 1, 0, none⟩ (.int .i64 k)).setCell ⟨W.heap.size + 1, 1, none⟩ (.int .i64 n)).setCell ⟨W.heap.size + 1, 2, none⟩ (.slice A l d))) from by
  obtain ⟨A, d, rfl, a⟩ := hp
  have hu : RGo (Bx X (W.heap.size + 1)) B mb cb fv inp fuel.up s w := a.go_.lim_ (l := fuel.lim + 1) (by omega) (by omega)
  refine ⟨A, d, rfl, a.q0, a.q1, (rclose_any (f := (nn, vs)) hu a.hX (by show _ ≤ 1000 * (fuel.lim + 1); omega) ⟨A, d, rfl, a.cap, (show vs.length ≤ 1000000 by omega), a.row⟩).mono fun e' w' hp => ?_⟩
  rw [ho] at hp
  exact a.retB h (Below.refl _ _) hp))
 clear ho
 obtain ⟨pq, rfl⟩ := he.shape
 generalize ats.length = al at *
 generalize vs.length = vl at *
 clear h hX he ha hvs hA hs hlim hB hfu hfB hvl
 go_enter Tryz.func50, Tryz.ntmps50
 go_wp2_with (first
  | (go_at_call 52; refine HA.out.mono ?_; rintro en w ⟨A, d, rfl, q0, q1, hT⟩; have HT := Lib.hid hT; clear hT; have q5 := lt_of_cell q0)
  | (go_at_call 68; refine HT.out.mono ?_; rintro e w' ⟨k, n, A, l, d, rfl, ⟨f0, f1, f2, ff⟩, hR⟩; have HR := Lib.hid hR; clear hR))
 exact bodyPost_ret (v := .agg #[.int .i64 k, .int .i64 n, .slice A l d]) (by simp [results, Tryz.results50, go_sem, f0, f1, f2]) rfl HR.out
theorem rrhs_field (h : RGo X B mb cb fv inp fuel s W) (hlim : fuel.lim < fuel.f) (hX : ∀ k, X k → k < W.heap.size) {nn : Int} {ats : List Atm} {Aa Ak Al : Option Addr} {ca lk ck lb cbl : Nat} {e : PEnv} {pv : Value} (he : EIn X s.made.length s.cells.length W e pv) (ha : AtomsIn B W Aa ats) (hs : ats.length ≤ 1000000) {vs : List PV} (hvs : atomsP e ats = some vs) (hn : 0 ≤ nn) (hl : vs.length = 1) :
 Calls Tryz.prog 50 #[.pointer (some ⟨cb, 0, none⟩), .agg #[.int .i64 4, .int .i64 nn, .slice Aa ats.length ca, .slice Ak lk ck, .slice Al lb cbl], pv] W (ROut X B mb cb fv inp fuel.up s (fieldF (vs[0]'(by omega)) nn s) W) := by
 generalize hV0 : (W.alloc (.cells #[.int .i64 4, .int .i64 nn, .slice Aa ats.length ca, .slice Ak lk ck, .slice Al lb cbl] 60)).alloc (.cells #[.int .i64 0, .int .i64 0, .slice none 0 0] 46) = V0
 obtain ⟨hA, q2⟩ := frameR2 (k := 4) (nn := nn) h hX he ha hs hvs V0 hV0
 obtain ⟨o, ho⟩ : ∃ o, ((fieldF (vs[0]'(by omega)) nn s) : FOut) = o := ⟨_, rfl⟩
 rw [ho]
 have hB := h.hBW
 have hfu : fuel.lim + 1 ≤ fuel.f := hlim
 have hfB := h.fnsB
 have hvl := atomsP_len _ _ hvs
 have HA := Lib.hid (hA.mono fun en w (hp : ∃ A d, en = .returned (.tuple #[.slice A vs.length d, .bool true]) ∧ AftR X B mb cb fv inp fuel s W 4 nn Ak Al lk ck lb cbl vs e pv w A d) => (show ∃ b oo d k1 n1 A1 l1 d1, en = .returned (.tuple #[.slice (some ⟨b, oo, none⟩) vs.length d, .bool true]) ∧ w.cell? ⟨W.heap.size, 0, none⟩ = some (.int .i64 4) ∧ w.cell? ⟨W.heap.size, 1, none⟩ = some (.int .i64 nn) ∧ w.cell? ⟨b, oo, none⟩ = some (.int .i64 k1) ∧ w.cell? ⟨b, oo + 1, none⟩ = some (.int .i64 n1) ∧ w.cell? ⟨b, oo + 2, none⟩ = some (.slice A1 l1 d1) ∧ Calls Tryz.prog 69 #[.pointer (some ⟨cb, 0, none⟩), .agg #[.int .i64 k1, .int .i64 n1, .slice A1 l1 d1], .int .i64 nn] w.drew (fun e' w' => ∃ k n A l d, e' = .returned (.agg #[.int .i64 k, .int .i64 n, .slice A l d]) ∧ (w'.cell? ⟨W.heap.size + 1, 0, none⟩ = some (.int .i64 0) ∧ w'.cell? ⟨W.heap.size + 1, 1, none⟩ = some (.int .i64 0) ∧ w'.cell? ⟨W.heap.size + 1, 2, none⟩ = some (.slice none 0 0) ∧ (∀ i, w'.frozen? ⟨W.heap.size + 1, i, none⟩ = false)) ∧ ROut X B mb cb fv inp fuel.up s o W (.returned (.agg #[.int .i64 k, .int .i64 n, .slice A l d])) (((w'.setCell ⟨W.heap.size + 1, 0, none⟩ (.int .i64 k)).setCell ⟨W.heap.size + 1, 1, none⟩ (.int .i64 n)).setCell ⟨W.heap.size + 1, 2, none⟩ (.slice A l d))) from by
  obtain ⟨A, d, rfl, a⟩ := hp
  have hu : RGo (Bx X (W.heap.size + 1)) B mb cb fv inp fuel.up s w := a.go_.lim_ (l := fuel.lim + 1) (by omega) (by omega)
  obtain ⟨b, oo, a0, a1, a2, rfl, c0, c1, c2, hv⟩ := a.row.at_ (show 0 < vs.length by omega)
  obtain ⟨k1, n1, A1, l1, d1, rfl, rfl, rfl⟩ := hv.shape
  simp only [Nat.zero_mul, Nat.add_zero] at c0 c1 c2
  have hd : Below w.heap.size w w.drew := (Below.refl _ _).drew
  have hv1 := hv.step (KpX.below (X := Bx X (W.heap.size + 1)) hd) (Nat.le_refl _) (Nat.le_refl _)
  refine ⟨b, oo, d, k1, n1, A1, l1, d1, rfl, a.q0, a.q1, c0, c1, c2, (rrfield_any (hu.below hd) hv1 nn hn).mono fun e' w' hp => ?_⟩
  rw [ho] at hp
  exact a.retB h hd hp))
 clear ho
 have hl0 : (0 : Int) < (vs.length : Int) := by omega
 have hl1 : 0 < vs.length := by omega
 clear hl
 obtain ⟨pq, rfl⟩ := he.shape
 generalize ats.length = al at *
 generalize vs.length = vl at *
 clear h hX he ha hvs hA hs hlim hB hfu hfB hvl
 go_enter Tryz.func50, Tryz.ntmps50
 go_wp2_with (first
  | (go_at_call 52; refine HA.out.mono ?_; rintro en w ⟨b, oo, d, k1, n1, A1, l1, d1, rfl, q0, q1, c0, c1, c2, hT⟩; have HT := Lib.hid hT; clear hT; have q5 := lt_of_cell q0; have q6 := lt_of_cell c0))
 go_region_law ((first
  | (go_simp; go_at_call 69; refine HT.out.mono ?_; rintro e w' ⟨k, n, A, l, d, rfl, ⟨f0, f1, f2, ff⟩, hR⟩; have HR := Lib.hid hR; clear hR)))
 all_goals
  go_wp2_with fail
  exact bodyPost_ret (v := .agg #[.int .i64 k, .int .i64 n, .slice A l d]) (by simp [results, Tryz.results50, go_sem, f0, f1, f2]) rfl HR.out
theorem rrhs_app (hok : RBodyOk p B mb cb fv inp n) (hwf : ∀ g ∈ p.funs, WfA p.funs.length g.body ∧ ShortA g.body) (hfv : FunsV B W p fv) (hmd : MadeIn p.funs.length s) (hn : s.left ≤ n) (h : RGo X B mb cb fv inp fuel s W) (hlim : fuel.lim < fuel.f) (hX : ∀ k, X k → k < W.heap.size) {nn : Int} {ats : List Atm} {Aa Ak Al : Option Addr} {ca lk ck lb cbl : Nat} {e : PEnv} {pv : Value} (he : EIn X s.made.length s.cells.length W e pv) (ha : AtomsIn B W Aa ats) (hs : ats.length ≤ 1000000) {vs : List PV} (hvs : atomsP e ats = some vs) (hl : vs.length = 2) :
 Calls Tryz.prog 50 #[.pointer (some ⟨cb, 0, none⟩), .agg #[.int .i64 6, .int .i64 nn, .slice Aa ats.length ca, .slice Ak lk ck, .slice Al lb cbl], pv] W (ROut X B mb cb fv inp fuel.up s (callF p.funs (evF p.funs inp n) (vs[0]'(by omega)) (vs[1]'(by omega)) s) W) := by
 generalize hV0 : (W.alloc (.cells #[.int .i64 6, .int .i64 nn, .slice Aa ats.length ca, .slice Ak lk ck, .slice Al lb cbl] 60)).alloc (.cells #[.int .i64 0, .int .i64 0, .slice none 0 0] 46) = V0
 obtain ⟨hA, q2⟩ := frameR2 (k := 6) (nn := nn) h hX he ha hs hvs V0 hV0
 obtain ⟨o, ho⟩ : ∃ o, ((callF p.funs (evF p.funs inp n) (vs[0]'(by omega)) (vs[1]'(by omega)) s) : FOut) = o := ⟨_, rfl⟩
 rw [ho]
 have hB := h.hBW
 have hfu : fuel.lim + 1 ≤ fuel.f := hlim
 have hfB := h.fnsB
 have hvl := atomsP_len _ _ hvs
 have HA := Lib.hid (hA.mono fun en w (hp : ∃ A d, en = .returned (.tuple #[.slice A vs.length d, .bool true]) ∧ AftR X B mb cb fv inp fuel s W 6 nn Ak Al lk ck lb cbl vs e pv w A d) => (show ∃ b oo d k1 n1 A1 l1 d1, en = .returned (.tuple #[.slice (some ⟨b, oo, none⟩) vs.length d, .bool true]) ∧ w.cell? ⟨W.heap.size, 0, none⟩ = some (.int .i64 6) ∧ w.cell? ⟨W.heap.size, 1, none⟩ = some (.int .i64 nn) ∧ w.cell? ⟨b, oo, none⟩ = some (.int .i64 k1) ∧ w.cell? ⟨b, oo + 1, none⟩ = some (.int .i64 n1) ∧ w.cell? ⟨b, oo + 2, none⟩ = some (.slice A1 l1 d1) ∧ ∃ k2 n2 A2 l2 d2, w.cell? ⟨b, oo + 3, none⟩ = some (.int .i64 k2) ∧ w.cell? ⟨b, oo + 3 + 1, none⟩ = some (.int .i64 n2) ∧ w.cell? ⟨b, oo + 3 + 2, none⟩ = some (.slice A2 l2 d2) ∧ Calls Tryz.prog 70 #[.pointer (some ⟨cb, 0, none⟩), .agg #[.int .i64 k1, .int .i64 n1, .slice A1 l1 d1], .agg #[.int .i64 k2, .int .i64 n2, .slice A2 l2 d2]] w.drew (fun e' w' => ∃ k n A l d, e' = .returned (.agg #[.int .i64 k, .int .i64 n, .slice A l d]) ∧ (w'.cell? ⟨W.heap.size + 1, 0, none⟩ = some (.int .i64 0) ∧ w'.cell? ⟨W.heap.size + 1, 1, none⟩ = some (.int .i64 0) ∧ w'.cell? ⟨W.heap.size + 1, 2, none⟩ = some (.slice none 0 0) ∧ (∀ i, w'.frozen? ⟨W.heap.size + 1, i, none⟩ = false)) ∧ ROut X B mb cb fv inp fuel.up s o W (.returned (.agg #[.int .i64 k, .int .i64 n, .slice A l d])) (((w'.setCell ⟨W.heap.size + 1, 0, none⟩ (.int .i64 k)).setCell ⟨W.heap.size + 1, 1, none⟩ (.int .i64 n)).setCell ⟨W.heap.size + 1, 2, none⟩ (.slice A l d))) from by
  obtain ⟨A, d, rfl, a⟩ := hp
  have hu : RGo (Bx X (W.heap.size + 1)) B mb cb fv inp fuel.up s w := a.go_.lim_ (l := fuel.lim + 1) (by omega) (by omega)
  obtain ⟨b, oo, a0, a1, a2, rfl, c0, c1, c2, hv⟩ := a.row.at_ (show 0 < vs.length by omega)
  obtain ⟨k1, n1, A1, l1, d1, rfl, rfl, rfl⟩ := hv.shape
  simp only [Nat.zero_mul, Nat.add_zero] at c0 c1 c2
  have hd : Below w.heap.size w w.drew := (Below.refl _ _).drew
  have hv1 := hv.step (KpX.below (X := Bx X (W.heap.size + 1)) hd) (Nat.le_refl _) (Nat.le_refl _)
  obtain ⟨b', o', b0, b1, b2, hbo, e0, e1, e2, hv2⟩ := a.row.at_ (show 1 < vs.length by omega)
  simp only [Option.some.injEq, Addr.mk.injEq, and_true] at hbo
  obtain ⟨rfl, rfl⟩ := hbo
  obtain ⟨k2, n2, A2, l2, d2, rfl, rfl, rfl⟩ := hv2.shape
  simp only [Nat.one_mul] at e0 e1 e2
  have hv3 := hv2.step (KpX.below (X := Bx X (W.heap.size + 1)) hd) (Nat.le_refl _) (Nat.le_refl _)
  refine ⟨b, oo, d, k1, n1, A1, l1, d1, rfl, a.q0, a.q1, c0, c1, c2, k2, n2, A2, l2, d2, e0, e1, e2, (rcall_any hok hwf (hu.below hd) (fun k hk => a.hX k hk) ((hfv.kept (a.bel.mono hB)).kept (hd.mono (Nat.le_trans hB a.bel.size))) hmd hv1 hv3 hn).mono fun e' w' hp => ?_⟩
  rw [ho] at hp
  exact a.retB h hd hp))
 clear ho
 have hl0 : (1 : Int) < (vs.length : Int) := by omega
 have hl1 : 1 < vs.length := by omega
 have hl2 : 0 < vs.length := by omega
 have hl3 : (0 : Int) < (vs.length : Int) := by omega
 clear hl hok hwf hfv hmd hn
 obtain ⟨pq, rfl⟩ := he.shape
 generalize ats.length = al at *
 generalize vs.length = vl at *
 clear h hX he ha hvs hA hs hlim hB hfu hfB hvl
 go_enter Tryz.func50, Tryz.ntmps50
 go_wp2_with (first
  | (go_at_call 52; refine HA.out.mono ?_; rintro en w ⟨b, oo, d, k1, n1, A1, l1, d1, rfl, q0, q1, c0, c1, c2, k2, n2, A2, l2, d2, e0, e1, e2, hT⟩; have HT := Lib.hid hT; clear hT; have q5 := lt_of_cell q0; have q6 := lt_of_cell c0))
 go_region_law ((first
  | (go_simp; go_at_call 70; refine HT.out.mono ?_; rintro e w' ⟨k, n, A, l, d, rfl, ⟨f0, f1, f2, ff⟩, hR⟩; have HR := Lib.hid hR; clear hR)))
 all_goals
  go_wp2_with fail
  exact bodyPost_ret (v := .agg #[.int .i64 k, .int .i64 n, .slice A l d]) (by simp [results, Tryz.results50, go_sem, f0, f1, f2]) rfl HR.out
theorem rrhs_prim (h : RGo X B mb cb fv inp fuel s W) (hlim : fuel.lim < fuel.f) (hX : ∀ k, X k → k < W.heap.size) {nn : Int} {ats : List Atm} {Aa Ak Al : Option Addr} {ca lk ck lb cbl : Nat} {e : PEnv} {pv : Value} (he : EIn X s.made.length s.cells.length W e pv) (ha : AtomsIn B W Aa ats) (hs : ats.length ≤ 1000000) {vs : List PV} (hvs : atomsP e ats = some vs) (hp1 : 1 ≤ nn) (hp2 : nn ≤ 15) (hl : vs.length = if twoF nn then 2 else 1) (rec : Anf → PEnv → FSt → FOut) :
 Calls Tryz.prog 50 #[.pointer (some ⟨cb, 0, none⟩), .agg #[.int .i64 2, .int .i64 nn, .slice Aa ats.length ca, .slice Ak lk ck, .slice Al lb cbl], pv] W (ROut X B mb cb fv inp fuel.up s (primF p.funs inp rec nn vs s) W) := by
 generalize hV0 : (W.alloc (.cells #[.int .i64 2, .int .i64 nn, .slice Aa ats.length ca, .slice Ak lk ck, .slice Al lb cbl] 60)).alloc (.cells #[.int .i64 0, .int .i64 0, .slice none 0 0] 46) = V0
 obtain ⟨hA, q2⟩ := frameR2 (k := 2) (nn := nn) h hX he ha hs hvs V0 hV0
 obtain ⟨o, ho⟩ : ∃ o, ((primF p.funs inp rec nn vs s) : FOut) = o := ⟨_, rfl⟩
 rw [ho]
 have hB := h.hBW
 have hfu : fuel.lim + 1 ≤ fuel.f := hlim
 have hfB := h.fnsB
 have hvl := atomsP_len _ _ hvs
 have HA := Lib.hid (hA.mono fun en w (hp : ∃ A d, en = .returned (.tuple #[.slice A vs.length d, .bool true]) ∧ AftR X B mb cb fv inp fuel s W 2 nn Ak Al lk ck lb cbl vs e pv w A d) => (show ∃ A d, en = .returned (.tuple #[.slice A vs.length d, .bool true]) ∧ w.cell? ⟨W.heap.size, 0, none⟩ = some (.int .i64 2) ∧ w.cell? ⟨W.heap.size, 1, none⟩ = some (.int .i64 nn) ∧ w.cell? ⟨cb, 0, none⟩ = some (.pointer (some ⟨mb, 0, none⟩)) ∧ Calls Tryz.prog 72 #[.pointer (some ⟨mb, 0, none⟩), .int .i64 nn, .slice A vs.length d] w.drew (fun e' w' => ∃ k n A l d, e' = .returned (.agg #[.int .i64 k, .int .i64 n, .slice A l d]) ∧ (w'.cell? ⟨W.heap.size + 1, 0, none⟩ = some (.int .i64 0) ∧ w'.cell? ⟨W.heap.size + 1, 1, none⟩ = some (.int .i64 0) ∧ w'.cell? ⟨W.heap.size + 1, 2, none⟩ = some (.slice none 0 0) ∧ (∀ i, w'.frozen? ⟨W.heap.size + 1, i, none⟩ = false)) ∧ ROut X B mb cb fv inp fuel.up s o W (.returned (.agg #[.int .i64 k, .int .i64 n, .slice A l d])) (((w'.setCell ⟨W.heap.size + 1, 0, none⟩ (.int .i64 k)).setCell ⟨W.heap.size + 1, 1, none⟩ (.int .i64 n)).setCell ⟨W.heap.size + 1, 2, none⟩ (.slice A l d))) from by
  obtain ⟨A, d, rfl, a⟩ := hp
  have hd : Below w.heap.size w w.drew := (Below.refl _ _).drew
  refine ⟨A, d, rfl, a.q0, a.q1, a.go_.c.ptr, (rprim_any (a.go_.below hd) hlim (fun k hk => a.hX k hk) (a.row.step (KpX.below (X := Bx X (W.heap.size + 1)) hd) (Nat.le_refl _) (Nat.le_refl _)) p.funs rec hp1 hp2 hl).mono fun e' w' hp => ?_⟩
  rw [ho] at hp
  exact a.retB h hd hp))
 clear ho
 have hne : (nn == 16) = false := by simp; omega
 have hne2 : (nn != 16) = true := by simp; omega
 clear hl hp1 hp2
 obtain ⟨pq, rfl⟩ := he.shape
 generalize ats.length = al at *
 generalize vs.length = vl at *
 clear h hX he ha hvs hA hs hlim hB hfu hfB hvl
 go_enter Tryz.func50, Tryz.ntmps50
 go_wp2_with (first
  | (go_at_call 52; refine HA.out.mono ?_; rintro en w ⟨A, d, rfl, q0, q1, mc, hT⟩; have HT := Lib.hid hT; clear hT; have q5 := lt_of_cell q0))
 go_region_law ((first
  | (go_simp; go_at_call 72; refine HT.out.mono ?_; rintro e w' ⟨k, n, A, l, d, rfl, ⟨f0, f1, f2, ff⟩, hR⟩; have HR := Lib.hid hR; clear hR)))
 all_goals
  go_wp2_with fail
  exact bodyPost_ret (v := .agg #[.int .i64 k, .int .i64 n, .slice A l d]) (by simp [results, Tryz.results50, go_sem, f0, f1, f2]) rfl HR.out
end
end Go.Proofs.YtnobggabjpcbfaaGreat
namespace Go.Proofs.YtnobggabjpcbfaaGreat
open Go.RowKit
section
variable {X Y : Nat → Prop} {B mb cb n : Nat} {p : FlatP} {fv : Value} {inp : List Int} {fuel : FL} {s s1 : FSt} {cut stk rai : Bool} {x0 x1 x2 : Value} {W W' W1 W2 V0 w : World} {o : FOut}
theorem rbigwhich_any (A : Option Addr) (c : Nat) (ks : List Int) (key : Int) (B : Nat) (w : World) (h : IntsIn B w A ks) :
 Calls Tryz.prog 71 #[.slice A ks.length c, .int .i64 key] w fun e w' => e = .returned (.int .i64 (whichAt ks key : Int)) ∧ w = w' := by
 have HW := Lib.hid (rwhich_any A c ks key B w h)
 clear h
 generalize whichAt ks key = j at *
 generalize ks.length = kl at *
 go_enter Tryz.func71, Tryz.ntmps71
 go_wp2_with (go_at_call 88; refine HW.out.mono ?_; rintro e w' ⟨rfl, rfl⟩)
 go_ret
 exact ⟨rfl, rfl⟩
theorem whichAt_leF (ks : List Int) (key : Int) : whichAt ks key ≤ ks.length := by
 unfold whichAt
 split
 · rename_i i hi
   have := (List.findIdx?_eq_some_iff_getElem.1 hi).1
   omega
 · omega
theorem rrhs_nokey (h : RGo X B mb cb fv inp fuel s W) (hlim : fuel.lim < fuel.f) (hX : ∀ k, X k → k < W.heap.size) {nn : Int} {ats : List Atm} {Aa Ak Al : Option Addr} {ca lk ck lb cbl : Nat} {e : PEnv} {pv : Value} (he : EIn X s.made.length s.cells.length W e pv) (ha : AtomsIn B W Aa ats) (hs : ats.length ≤ 1000000) {vs : List PV} (hvs : atomsP e ats = some vs) (hl : vs.length = 1) (hno : keyOf (vs[0]'(by omega)) = none) :
 Calls Tryz.prog 50 #[.pointer (some ⟨cb, 0, none⟩), .agg #[.int .i64 8, .int .i64 nn, .slice Aa ats.length ca, .slice Ak lk ck, .slice Al lb cbl], pv] W (ROut X B mb cb fv inp fuel.up s (Res.stuck, s) W) := by
 generalize hV0 : (W.alloc (.cells #[.int .i64 8, .int .i64 nn, .slice Aa ats.length ca, .slice Ak lk ck, .slice Al lb cbl] 60)).alloc (.cells #[.int .i64 0, .int .i64 0, .slice none 0 0] 46) = V0
 obtain ⟨hA, q2⟩ := frameR2 (k := 8) (nn := nn) h hX he ha hs hvs V0 hV0
 obtain ⟨o, ho⟩ : ∃ o, ((Res.stuck, s) : FOut) = o := ⟨_, rfl⟩
 rw [ho]
 have hB := h.hBW
 have hfu : fuel.lim + 1 ≤ fuel.f := hlim
 have hfB := h.fnsB
 have hvl := atomsP_len _ _ hvs
 have HA := Lib.hid (hA.mono fun en w (hp : ∃ A d, en = .returned (.tuple #[.slice A vs.length d, .bool true]) ∧ AftR X B mb cb fv inp fuel s W 8 nn Ak Al lk ck lb cbl vs e pv w A d) => (show ∃ b oo d k1 n1 A1 l1 d1, en = .returned (.tuple #[.slice (some ⟨b, oo, none⟩) vs.length d, .bool true]) ∧ w.cell? ⟨W.heap.size, 0, none⟩ = some (.int .i64 8) ∧ w.cell? ⟨b, oo, none⟩ = some (.int .i64 k1) ∧ w.cell? ⟨b, oo + 1, none⟩ = some (.int .i64 n1) ∧ w.cell? ⟨b, oo + 2, none⟩ = some (.slice A1 l1 d1) ∧ Calls Tryz.prog 41 #[.agg #[.int .i64 k1, .int .i64 n1, .slice A1 l1 d1]] w (fun en' w1 => en' = .returned (.tuple #[.int .i64 0, .bool false]) ∧ W.heap.size < w1.heap.size ∧ w1.cell? ⟨cb, 0, none⟩ = some (.pointer (some ⟨mb, 0, none⟩)) ∧ Calls Tryz.prog 49 #[.pointer (some ⟨mb, 0, none⟩)] w1 (fun e' w' => ∃ k n A l d, e' = .returned (.agg #[.int .i64 k, .int .i64 n, .slice A l d]) ∧ (w'.cell? ⟨W.heap.size + 1, 0, none⟩ = some (.int .i64 0) ∧ w'.cell? ⟨W.heap.size + 1, 1, none⟩ = some (.int .i64 0) ∧ w'.cell? ⟨W.heap.size + 1, 2, none⟩ = some (.slice none 0 0) ∧ (∀ i, w'.frozen? ⟨W.heap.size + 1, i, none⟩ = false)) ∧ ROut X B mb cb fv inp fuel.up s o W (.returned (.agg #[.int .i64 k, .int .i64 n, .slice A l d])) (((w'.setCell ⟨W.heap.size + 1, 0, none⟩ (.int .i64 k)).setCell ⟨W.heap.size + 1, 1, none⟩ (.int .i64 n)).setCell ⟨W.heap.size + 1, 2, none⟩ (.slice A l d)))) from by
  obtain ⟨A, d, rfl, a⟩ := hp
  have hu : RGo (Bx X (W.heap.size + 1)) B mb cb fv inp fuel.up s w := a.go_.lim_ (l := fuel.lim + 1) (by omega) (by omega)
  obtain ⟨b, oo, a0, a1, a2, rfl, c0, c1, c2, hv⟩ := a.row.at_ (show 0 < vs.length by omega)
  obtain ⟨k1, n1, A1, l1, d1, rfl, rfl, rfl⟩ := hv.shape
  simp only [Nat.zero_mul, Nat.add_zero] at c0 c1 c2
  refine ⟨b, oo, d, k1, n1, A1, l1, d1, rfl, a.q0, c0, c1, c2, (rkey_any hv w).mono fun en' w1 hk => ?_⟩
  rcases hk with ⟨key, hk, -⟩ | ⟨-, rfl, hb⟩
  · rw [hno] at hk; cases hk
  · have hsz := hb.size
    have hsz2 := a.sz
    refine ⟨rfl, by omega, (a.go_.below hb).c.ptr, (rstop_any (hu.below hb)).mono fun e' w' hp => ?_⟩
    have hp2 := a.retB h hb (ROut.stop hp)
    rw [ho] at hp2
    exact hp2))
 clear ho
 have hl0 : (0 : Int) < (vs.length : Int) := by omega
 have hl1 : 0 < vs.length := by omega
 clear hno hl
 obtain ⟨pq, rfl⟩ := he.shape
 generalize ats.length = al at *
 generalize vs.length = vl at *
 clear h hX he ha hvs hA hs hlim hB hfu hfB hvl
 go_enter Tryz.func50, Tryz.ntmps50
 go_wp2_with (first
  | (go_at_call 52; refine HA.out.mono ?_; rintro en w ⟨b, oo, d, k1, n1, A1, l1, d1, rfl, q0, c0, c1, c2, hT⟩; have HT := Lib.hid hT; clear hT; have q5 := lt_of_cell q0; have q6 := lt_of_cell c0)
  | (go_at_call 41; refine HT.out.mono ?_; rintro en' w1 ⟨rfl, q7, mc, hT2⟩; have HT2 := Lib.hid hT2; clear hT2)
  | (go_at_call 49; refine HT2.out.mono ?_; rintro e w' ⟨k, n, A, l, d, rfl, ⟨f0, f1, f2, ff⟩, hR⟩; have HR := Lib.hid hR; clear hR))
 exact bodyPost_ret (v := .agg #[.int .i64 k, .int .i64 n, .slice A l d]) (by simp [results, Tryz.results50, go_sem, f0, f1, f2]) rfl HR.out
theorem rrhs_switch (hok : RBodyOk p B mb cb fv inp n) (hfv : FunsV B W p fv) (hmd : MadeIn p.funs.length s) (hn : s.left < n) (h : RGo X B mb cb fv inp fuel s W) (hlim : fuel.lim < fuel.f) (hX : ∀ k, X k → k < W.heap.size) {nn : Int} {ats : List Atm} {Aa Ak Al : Option Addr} {ca lk ck lb cbl : Nat} {e : PEnv} {pv : Value} (he : EIn X s.made.length s.cells.length W e pv) (ha : AtomsIn B W Aa ats) (hs : ats.length ≤ 1000000) {vs : List PV} (hvs : atomsP e ats = some vs) (hl : vs.length = 1) {key : Int} (hkey : keyOf (vs[0]'(by omega)) = some key) {ks : List Int} {bl : List Anf} (hks : IntsIn B W Ak ks) (hlk : lk = ks.length) (hbl : BlocksIn B W Al bl) (hlb : lb = bl.length) (hbk : bl.length = ks.length + 1) (hwb : ∀ c ∈ bl, WfA p.funs.length c ∧ ShortA c) :
 Calls Tryz.prog 50 #[.pointer (some ⟨cb, 0, none⟩), .agg #[.int .i64 8, .int .i64 nn, .slice Aa ats.length ca, .slice Ak lk ck, .slice Al lb cbl], pv] W (ROut X B mb cb fv inp fuel.up s (evF p.funs inp n (bl[whichAt ks key]?.getD default) e s) W) := by
 generalize hV0 : (W.alloc (.cells #[.int .i64 8, .int .i64 nn, .slice Aa ats.length ca, .slice Ak lk ck, .slice Al lb cbl] 60)).alloc (.cells #[.int .i64 0, .int .i64 0, .slice none 0 0] 46) = V0
 obtain ⟨hA, q2⟩ := frameR2 (k := 8) (nn := nn) h hX he ha hs hvs V0 hV0
 obtain ⟨o, ho⟩ : ∃ o, ((evF p.funs inp n (bl[whichAt ks key]?.getD default) e s) : FOut) = o := ⟨_, rfl⟩
 rw [ho]
 have hB := h.hBW
 have hfu : fuel.lim + 1 ≤ fuel.f := hlim
 have hfB := h.fnsB
 have hvl := atomsP_len _ _ hvs
 subst hlk
 subst hlb
 obtain ⟨j, hj⟩ : ∃ j, whichAt ks key = j := ⟨_, rfl⟩
 have hjl : j < bl.length := by have := whichAt_leF ks key; omega
 obtain ⟨ba, ob, y0, y1, y2, rfl, hba, g0, g1, g2, hbd⟩ := hbl.2 j hjl
 rw [hj] at ho
 have hget : bl[j]?.getD default = bl[j] := by simp [hjl]
 rw [hget] at ho
 have hmem : bl[j] ∈ bl := List.getElem_mem hjl
 have hbd0 := hbd
 obtain ⟨A2, d2, b9, o9, hv9, -⟩ := hbd0
 simp only [Array.mk.injEq, List.cons.injEq, and_true] at hv9
 obtain ⟨rfl, rfl, rfl⟩ := hv9
 generalize hlv : bl[j].last.v = lv at *
 generalize hln : bl[j].last.n = ln at *
 generalize hl2' : bl[j].len = l2 at *
 have HA := Lib.hid (hA.mono fun en w (hp : ∃ A d, en = .returned (.tuple #[.slice A vs.length d, .bool true]) ∧ AftR X B mb cb fv inp fuel s W 8 nn Ak (some ⟨ba, ob, none⟩) ks.length ck bl.length cbl vs e pv w A d) => (show ∃ b oo d k1 n1 A1 l1 d1, en = .returned (.tuple #[.slice (some ⟨b, oo, none⟩) vs.length d, .bool true]) ∧ w.cell? ⟨W.heap.size, 0, none⟩ = some (.int .i64 8) ∧ w.cell? ⟨b, oo, none⟩ = some (.int .i64 k1) ∧ w.cell? ⟨b, oo + 1, none⟩ = some (.int .i64 n1) ∧ w.cell? ⟨b, oo + 2, none⟩ = some (.slice A1 l1 d1) ∧ Calls Tryz.prog 41 #[.agg #[.int .i64 k1, .int .i64 n1, .slice A1 l1 d1]] w (fun en' w1 => en' = .returned (.tuple #[.int .i64 key, .bool true]) ∧ W.heap.size < w1.heap.size ∧ w1.cell? ⟨W.heap.size, 3, none⟩ = some (.slice Ak ks.length ck) ∧ w1.cell? ⟨W.heap.size, 4, none⟩ = some (.slice (some ⟨ba, ob, none⟩) bl.length cbl) ∧ ba < w1.heap.size ∧ w1.cell? ⟨ba, ob + j * 3, none⟩ = some (.slice A2 l2 d2) ∧ w1.cell? ⟨ba, ob + j * 3 + 1, none⟩ = some (.bool lv) ∧ w1.cell? ⟨ba, ob + j * 3 + 2, none⟩ = some (.int .i64 ln) ∧ Calls Tryz.prog 71 #[.slice Ak ks.length ck, .int .i64 key] w1.drew (fun e' w' => e' = .returned (.int .i64 (j : Int)) ∧ w1.drew = w') ∧ Calls Tryz.prog 29 #[.pointer (some ⟨cb, 0, none⟩), .agg #[.slice A2 l2 d2, .bool lv, .int .i64 ln], pv] w1.drew (fun e' w' => ∃ k n A l d, e' = .returned (.agg #[.int .i64 k, .int .i64 n, .slice A l d]) ∧ (w'.cell? ⟨W.heap.size + 1, 0, none⟩ = some (.int .i64 0) ∧ w'.cell? ⟨W.heap.size + 1, 1, none⟩ = some (.int .i64 0) ∧ w'.cell? ⟨W.heap.size + 1, 2, none⟩ = some (.slice none 0 0) ∧ (∀ i, w'.frozen? ⟨W.heap.size + 1, i, none⟩ = false)) ∧ ROut X B mb cb fv inp fuel.up s o W (.returned (.agg #[.int .i64 k, .int .i64 n, .slice A l d])) (((w'.setCell ⟨W.heap.size + 1, 0, none⟩ (.int .i64 k)).setCell ⟨W.heap.size + 1, 1, none⟩ (.int .i64 n)).setCell ⟨W.heap.size + 1, 2, none⟩ (.slice A l d)))) from by
  obtain ⟨A, d, rfl, a⟩ := hp
  have hu : RGo (Bx X (W.heap.size + 1)) B mb cb fv inp fuel.up s w := a.go_.lim_ (l := fuel.lim + 1) (by omega) (by omega)
  obtain ⟨b, oo, a0, a1, a2, rfl, c0, c1, c2, hv⟩ := a.row.at_ (show 0 < vs.length by omega)
  obtain ⟨k1, n1, A1, l1, d1, rfl, rfl, rfl⟩ := hv.shape
  simp only [Nat.zero_mul, Nat.add_zero] at c0 c1 c2
  refine ⟨b, oo, d, k1, n1, A1, l1, d1, rfl, a.q0, c0, c1, c2, (rkey_any hv w).mono fun en' w1 hk => ?_⟩
  rcases hk with ⟨key', hk, rfl, hb⟩ | ⟨hk, -⟩
  rotate_left
  · rw [hkey] at hk; cases hk
  rw [hkey] at hk; cases hk
  have hd : Below w.heap.size w w1.drew := hb.drew
  have hsz := hb.size
  have hsz2 := a.sz
  have hBw : Below B W w1.drew := (a.bel.mono hB).trans (hd.mono (Nat.le_trans hB a.bel.size))
  have hBw1 : Below B W w1 := (a.bel.mono hB).trans (hb.mono (Nat.le_trans hB a.bel.size))
  refine ⟨rfl, by omega, cell_behind hb a.q3, cell_behind hb a.q4, by have := hb.size; have := a.bel.size; omega, (hBw1.cell (p := ⟨ba, ob + j * 3, none⟩) hba).trans g0, (hBw1.cell (p := ⟨ba, ob + j * 3 + 1, none⟩) hba).trans g1, (hBw1.cell (p := ⟨ba, ob + j * 3 + 2, none⟩) hba).trans g2, ?_, ?_⟩
  · have := rbigwhich_any Ak ck ks key B w1.drew (hks.below hBw)
    rw [hj] at this
    exact this
  · refine (hok (Bx X (W.heap.size + 1)) fuel.up s w1.drew _ _ _ _ e pv (hu.below hd) (fun k hk => by have := a.hX k hk; have := hd.size; omega) (hfv.kept hBw) hmd (hbd.kept hBw) (hwb _ hmem).1 (hwb _ hmem).2 (a.env.step (KpX.below hd) (Nat.le_refl _) (Nat.le_refl _)) hn).mono fun e' w' hp => ?_
    rw [ho] at hp
    exact a.retB h hd hp))
 clear ho
 have hl0 : (0 : Int) < (vs.length : Int) := by omega
 have hl1 : 0 < vs.length := by omega
 have hj0 : (0 : Int) ≤ (j : Int) := by omega
 have hjl2 : (j : Int) < (bl.length : Int) := by omega
 have hl8 := hbl.1
 clear hl hkey hks hbl hbk hwb hok hfv hmd hn hbd hmem g0 g1 g2 hba hj hget hlv hln hl2'
 generalize ks.length = kl at *
 generalize bl.length = bln at *
 obtain ⟨pq, rfl⟩ := he.shape
 generalize ats.length = al at *
 generalize vs.length = vl at *
 clear h hX he ha hvs hA hs hlim hB hfu hfB hvl
 go_enter Tryz.func50, Tryz.ntmps50
 go_wp2_with (first
  | (go_at_call 52; refine HA.out.mono ?_; rintro en w ⟨b, oo, d, k1, n1, A1, l1, d1, rfl, q0, c0, c1, c2, hT⟩; have HT := Lib.hid hT; clear hT; have q5 := lt_of_cell q0; have q6 := lt_of_cell c0)
  | (go_at_call 41; refine HT.out.mono ?_; rintro en' w1 ⟨rfl, q7, q3, q4, q8, g0, g1, g2, hW, hT2⟩; have HT2 := Lib.hid hT2; clear hT2; have HW := Lib.hid hW; clear hW))
 go_region_law ((first
  | (go_simp; go_at_call 71; refine HW.out.mono ?_; rintro e w' ⟨rfl, rfl⟩)
  | (go_simp; go_at_call 29; refine HT2.out.mono ?_; rintro e w' ⟨k, n, A, l, d, rfl, ⟨f0, f1, f2, ff⟩, hR⟩; have HR := Lib.hid hR; clear hR)))
 all_goals
  go_wp2_with fail
  exact bodyPost_ret (v := .agg #[.int .i64 k, .int .i64 n, .slice A l d]) (by simp [results, Tryz.results50, go_sem, f0, f1, f2]) rfl HR.out
end
end Go.Proofs.YtnobggabjpcbfaaGreat
namespace Go.Proofs.YtnobggabjpcbfaaGreat
theorem MadeIn.of_made {nf : Nat} {s s' : FSt} (h : MadeIn nf s) (he : s'.made = s.made) : MadeIn nf s' := by
 intro c hc
 exact h c (he ▸ hc)
theorem MadeIn.more {nf : Nat} {s s' : FSt} {l : List (Int × List PV)} (h : MadeIn nf s) (he : s'.made = s.made ++ l) (hl : ∀ c ∈ l, 0 ≤ c.1 ∧ c.1 < nf) : MadeIn nf s' := by
 intro c hc
 rw [he, List.mem_append] at hc
 exact hc.elim (h c) (hl c)
theorem andThen_in {nf : Nat} {o : FOut} {f : PV → FSt → FOut} (h : MadeIn nf o.2) (hf : ∀ v s, MadeIn nf s → MadeIn nf (f v s).2) : MadeIn nf (FOut.andThen o f).2 := by
 obtain ⟨r, s⟩ := o
 cases r
 · exact hf _ _ h
 all_goals exact h
section
variable {funs : List FFun} {inp : List Int} {rec : Anf → PEnv → FSt → FOut} {nf : Nat} (hrec : ∀ t e s, WfA nf t → MadeIn nf s → MadeIn nf (rec t e s).2) (hf : ∀ g ∈ funs, WfA nf g.body)
include hrec hf
theorem callF_in (f a : PV) (s : FSt) (h : MadeIn nf s) : MadeIn nf (callF funs rec f a s).2 := by
 unfold callF
 split
 · split
   · exact h
   · split
     · rename_i c hc
       split
       · rename_i g hg
         exact hrec _ _ _ (hf _ (List.mem_of_getElem? hg)) (h.of_made rfl)
       · exact h
     · exact h
 · exact h
theorem primF_in (p : Int) (l : List PV) (s : FSt) (h : MadeIn nf s) : MadeIn nf (primF funs inp rec p l s).2 := by
 unfold primF
 simp only []
 split
 · exact h.of_made rfl
 split
 · split <;> exact h
 split
 · split <;> first | exact h | exact h.of_made rfl
 split
 · split <;> first | exact h | exact h.of_made rfl
 split
 · unfold readF
   split <;> exact h.of_made rfl
 split
 · split <;> exact h
 split
 · have h1 := callF_in hrec hf (l[0]?.getD default) (.int 0) s h
   split
   · rename_i v s' he
     rw [he] at h1
     exact callF_in hrec hf _ _ _ h1
   · exact h1
 · split
   · split <;> exact h
   · exact h
theorem rhsF_in (k n : Int) (l : List PV) (ks : List Int) (bl : List Anf) (e : PEnv) (s : FSt) (hk : k = 9 → 0 ≤ n ∧ n < nf) (hb : ∀ c ∈ bl, WfA nf c) (h : MadeIn nf s) : MadeIn nf (rhsF funs inp rec k n l ks bl e s).2 := by
 unfold rhsF
 split
 · exact h
 split
 · exact h
 split
 · rename_i h9
   exact h.more (l := [(n, l)]) rfl (fun c hc => by simp only [List.mem_singleton] at hc; subst hc; exact hk h9)
 split
 · rw [fieldF_same]; exact h
 split
 · exact callF_in hrec hf _ _ _ h
 split
 · split
   · rename_i key _
     refine hrec _ _ _ ?_ h
     rcases hg : bl[whichAt ks key]? with _ | c
     · exact .ret _
     · exact hb _ (List.mem_of_getElem? hg)
   · exact h
 · exact primF_in hrec hf _ _ _ h
theorem bindF_in (x k n : Int) (ats : List Atm) (ks : List Int) (bl : List Anf) (rest : Anf) (e : PEnv) (s : FSt) (ht : WfA nf (.bind x k n ats ks bl rest)) (h : MadeIn nf s) : MadeIn nf (bindF funs inp rec x k n ats ks bl rest e s).2 := by
 cases ht with
 | bind he hb hr =>
  unfold bindF
  split
  · rename_i hk
    subst hk
    simp only []
    split
    · refine hrec _ _ _ hr (h.more rfl fun c hc => ?_)
      obtain ⟨q, hg⟩ := (bindOk_of he).group_
      obtain ⟨j, hj, rfl⟩ := List.getElem_of_mem hc
      have hq := groupMade_length q ks ‹_› hg.len
      have := groupMade_get q ks ‹_› hg.len j (hq ▸ hj)
      rw [List.getElem?_eq_getElem hj] at this
      simp only [Option.some.injEq] at this
      rw [this]
      exact hg.f j (hq ▸ hj)
    · exact h
  · split
    · refine andThen_in (rhsF_in hrec hf _ _ _ _ _ _ _ (fun hk => ?_) hb h) (fun v s' hs' => hrec _ _ _ hr hs')
      subst hk
      exact (bindOk_of he).close.2
    · exact h
end
theorem evF_in {funs : List FFun} (inp : List Int) {nf : Nat} (hf : ∀ g ∈ funs, WfA nf g.body) : ∀ (n : Nat) (t : Anf) (e : PEnv) (s : FSt), WfA nf t → MadeIn nf s → MadeIn nf (evF funs inp n t e s).2
 | 0, _, _, _, _, h => h
 | n + 1, .ret a, e, s, _, h => by
  unfold evF
  split <;> exact h
 | n + 1, .bind x k m ats ks bl rest, e, s, ht, h => by
  unfold evF
  split
  · exact h
  · exact bindF_in (evF_in inp hf n) hf _ _ _ _ _ _ _ _ _ ht (h.of_made rfl)
end Go.Proofs.YtnobggabjpcbfaaGreat
