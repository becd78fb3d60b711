/-
  6 texts of this seat in one: PH7 PH8 PR0 PR1 PR2 PF1.
-/
import Derived.Test.YtllakbiipdcboaaDoorQA3
import Derived.BigRegion
import Derived.Test.YtllakbiipdcboaaDoorQA2
import Derived.RangeFuncNested
import Derived.RangeFuncBound
import Derived.RangeFuncCalls
import Derived.RangeFuncLeaves
import Derived.Shelf.Abstract
import Derived.Shelf.RegionOpen
import Derived.OwnWalkIn
import Derived.TacticsInMore
import Derived.LoopNIn
import Derived.LoopIn
import Derived.Laws.EntriesVeiled
/-
  The flat evaluator: how an evaluation ends; a step; a call.
-/
set_option linter.unusedVariables false
set_option linter.unusedSimpArgs false
namespace Go.Proofs.YtllakbiipdcboaaDoor
open Go.RowKit

/-- what is thrown: what was recovered and thrown again lies behind it -/
def Thrown (T : TypeId) (x : Value) (ch : List PanicEntry) : Prop := ∃ older : List PanicEntry, ch = { v := .iface T x, recovered := false } :: older ∧ ∀ p ∈ older, p.goexit = false
theorem thrown_one (T : TypeId) (x : Value) : Thrown T x [{ v := .iface T x, recovered := false }] := ⟨[], rfl, by simp⟩

/-- how an evaluation ends in memory -/
inductive EvPost (rb B : Nat) (p : FlatP) (inp : List Int) (fuel : Nat) (m : Mem) (W : World) : FOut → Ending → World → Prop
  | val {v : PV} {s : FSt} {m' : Mem} {W' : World} {g : Value} (hk : Evo rb m m' W W') (hg : Good rb B p inp fuel s m' W') (hv : RepV rb m' W' v g) : EvPost rb B p inp fuel m W (.val v, s) (.returned g) W'
  | raised {v : PV} {s : FSt} {m' : Mem} {W' : World} {g : Value} {ch : List PanicEntry} (hk : Evo rb m m' W W') (hg : Good rb B p inp fuel s m' W') (hv : RepV rb m' W' v g) (hkey : ∃ k, keyOf v = some k) (hth : Thrown 70 (.agg #[g]) ch) : EvPost rb B p inp fuel m W (.raised v, s) (.panicked ch) W'
  | stuck {s : FSt} {m' : Mem} {W' : World} {ch : List PanicEntry} (hk : Evo rb m m' W W') (hg : Good rb B p inp fuel s m' W') (hth : Thrown 68 (.agg #[.int .i64 4]) ch) : EvPost rb B p inp fuel m W (.stuck, s) (.panicked ch) W'
  | cut {s : FSt} {m' : Mem} {W' : World} {ch : List PanicEntry} (hk : Evo rb m m' W W') (hg : Good rb B p inp fuel s m' W') (hth : Thrown 68 (.agg #[.int .i64 3]) ch) : EvPost rb B p inp fuel m W (.cut, s) (.panicked ch) W'
theorem EvPost.from_ {rb B : Nat} {p : FlatP} {inp : List Int} {fuel : Nat} {m m' : Mem} {W W' : World} (hk : Evo rb m m' W W') {o : FOut} {e : Ending} {V : World} (h : EvPost rb B p inp fuel m' W' o e V) : EvPost rb B p inp fuel m W o e V := by
  cases h with
  | val h1 h2 h3 => exact .val (hk.trans h1) h2 h3
  | raised h1 h2 h3 h4 h5 => exact .raised (hk.trans h1) h2 h3 h4 h5
  | stuck h1 h2 h3 => exact .stuck (hk.trans h1) h2 h3
  | cut h1 h2 h3 => exact .cut (hk.trans h1) h2 h3

theorem EvPost.ends {rb B : Nat} {p : FlatP} {inp : List Int} {fuel : Nat} {m : Mem} {W : World} {o : FOut} {e : Ending} {V : World} (h : EvPost rb B p inp fuel m W o e V) :
    (∃ g, e = .returned g ∧ EvPost rb B p inp fuel m W o (.returned g) V) ∨ (∃ ch, e = .panicked ch ∧ EvPost rb B p inp fuel m W o (.panicked ch) V) := by
  cases h with
  | val h1 h2 h3 => exact .inl ⟨_, rfl, .val h1 h2 h3⟩
  | raised h1 h2 h3 h4 h5 => exact .inr ⟨_, rfl, .raised h1 h2 h3 h4 h5⟩
  | stuck h1 h2 h3 => exact .inr ⟨_, rfl, .stuck h1 h2 h3⟩
  | cut h1 h2 h3 => exact .inr ⟨_, rfl, .cut h1 h2 h3⟩

theorem EvPost.evo {rb B : Nat} {p : FlatP} {inp : List Int} {fuel : Nat} {m : Mem} {W : World} {o : FOut} {e : Ending} {V : World} (h : EvPost rb B p inp fuel m W o e V) : ∃ m', Evo rb m m' W V := by
  cases h with
  | val h1 h2 h3 => exact ⟨_, h1⟩
  | raised h1 h2 h3 h4 h5 => exact ⟨_, h1⟩
  | stuck h1 h2 h3 => exact ⟨_, h1⟩
  | cut h1 h2 h3 => exact ⟨_, h1⟩

/-- bodies are evaluated as they should, to a depth -/
def BodyOk (rb B : Nat) (p : FlatP) (inp : List Int) (fuel n : Nat) : Prop :=
  ∀ (a : Anf) (e : PEnv) (s : FSt) (m : Mem) (W : World) (ga : Array Value) (ge : Value), BodyIn B W a ga → WfA p.funs.length a → EnvIn rb m W e ge → Good rb B p inp fuel s m W → s.left < n →
    Calls Tryd.prog 20 #[.pointer (some ⟨rb, 0, none⟩), .agg ga, ge] W (EvPost rb B p inp fuel m W (evF p.funs inp n a e s))

section
variable {rb B : Nat} {p : FlatP} {inp : List Int} {fuel n : Nat} {s : FSt} {m : Mem} {W : World}
/-- a step -/
def StepPost (rb B : Nat) (p : FlatP) (inp : List Int) (fuel : Nat) (s : FSt) (m : Mem) (W : World) (e : Ending) (W' : World) : Prop :=
  (0 < s.left ∧ e = .returned (.tuple #[]) ∧ Good rb B p inp fuel { s with left := s.left - 1 } m W' ∧ Evo rb m m W W') ∨ (s.left = 0 ∧ e = .panicked (stopV 3) ∧ Good rb B p inp fuel s m W' ∧ Evo rb m m W W')
set_option maxRecDepth 100000 in
theorem step_any (hg : Good rb B p inp fuel s m W) : Calls Tryd.prog 26 #[.pointer (some ⟨rb, 0, none⟩)] W (StepPost rb B p inp fuel s m W) := by
  obtain ⟨Ai, ci, hr, hi, hci⟩ := hg.run
  have hfu := hg.fuelB
  have hle := hg.left
  obtain ⟨st, hst⟩ : ∃ st : Int, st = (fuel : Int) - s.left := ⟨_, rfl⟩
  have hst0 : 0 ≤ st := by omega
  have hst2 : st ≤ 1000000 := by omega
  have c5 : W.cell? ⟨rb, 1, none⟩ = some (.int .i64 fuel) := by simp [World.cell?, hr]
  have c9 : W.cell? ⟨rb, 5, none⟩ = some (.int .i64 st) := by simp [World.cell?, hr, hst]
  have z9 : W.frozen? ⟨rb, 5, none⟩ = false := by simp [World.frozen?, hr]
  have hw : IntKind.i64.wrap (st + 1) = st + 1 := by rw [IntKind.wrap_i64]; omega
  by_cases h0 : s.left = 0
  · have hlt : ¬ st < (fuel : Int) := by omega
    have hge : (fuel : Int) ≤ st := by omega
    have HP := Lib.hid (fun (nq : Nat) => (show StepPost rb B p inp fuel s m W (.panicked (stopV 3)) (W.drewN nq) from
      .inr ⟨h0, rfl, hg.below (below_drewN (Below.refl _ _) _), Evo.below (below_drewN (Below.refl _ _) _)⟩))
    clear hg hr hi hci h0 hst hle
    go_enter Tryd.func26, Tryd.ntmps26
    go_wp2_with fail
    go_quiet (fail)
    go_wp2_with fail
    exact ⟨rfl, HP.out _⟩
  · have hlt : st < (fuel : Int) := by omega
    have hge : ¬ (fuel : Int) ≤ st := by omega
    have HP := Lib.hid (fun (nq : Nat) => (show StepPost rb B p inp fuel s m W (.returned (.tuple #[])) ((W.drewN nq).setCell ⟨rb, 5, none⟩ (.int .i64 (st + 1))) from by
      obtain ⟨q1, q2⟩ := (hg.below (below_drewN (Below.refl _ _) nq)).step (by omega)
      rw [← hst] at q1 q2
      exact .inl ⟨by omega, rfl, q1, (Evo.below (below_drewN (Below.refl _ _) nq)).trans q2⟩))
    clear hg hr hi hci h0 hst hle
    go_enter Tryd.func26, Tryd.ntmps26
    go_wp2_with fail
    go_quiet (fail)
    go_wp2_with fail
    go_end0
    exact HP.out _
end
end Go.Proofs.YtllakbiipdcboaaDoor

/-
  The evaluator of terms: a call.
-/
set_option linter.unusedVariables false
set_option linter.unusedSimpArgs false
namespace Go.Proofs.YtllakbiipdcboaaDoor
open Go.RowKit

theorem EvPost.inv {rb B : Nat} {p : FlatP} {inp : List Int} {fuel : Nat} {m : Mem} {W : World} {o : FOut} {e : Ending} {V : World} (h : EvPost rb B p inp fuel m W o e V) :
    (∃ v s' m' T x, o = (.val v, s') ∧ e = .returned (.iface T x) ∧ Evo rb m m' W V ∧ Good rb B p inp fuel s' m' V ∧ RepV rb m' V v (.iface T x)) ∨
      (∃ ch, e = .panicked ch ∧ (∀ v s', o ≠ (.val v, s')) ∧ EvPost rb B p inp fuel m W o (.panicked ch) V ∧ ∀ f, EvPost rb B p inp fuel m W (FOut.andThen o f) (.panicked ch) V) := by
  cases h with
  | val h1 h2 h3 => obtain ⟨T, x, rfl⟩ := h3.shape; exact .inl ⟨_, _, _, T, x, rfl, rfl, h1, h2, h3⟩
  | raised h1 h2 h3 h4 h5 => exact .inr ⟨_, rfl, by simp, .raised h1 h2 h3 h4 h5, fun f => .raised h1 h2 h3 h4 h5⟩
  | stuck h1 h2 h3 => exact .inr ⟨_, rfl, by simp, .stuck h1 h2 h3, fun f => .stuck h1 h2 h3⟩
  | cut h1 h2 h3 => exact .inr ⟨_, rfl, by simp, .cut h1 h2 h3, fun f => .cut h1 h2 h3⟩
section
variable {rb B : Nat} {p : FlatP} {inp : List Int} {fuel n : Nat} {s : FSt} {m : Mem} {W : World}
set_option maxRecDepth 100000 in
set_option maxHeartbeats 1000000 in
theorem call_fn (hok : BodyOk rb B p inp fuel n) (i : Nat) (a : PV) {gf ga : Value} (hf : RepV rb m W (.fn i) gf) (ha : RepV rb m W a ga) (hg : Good rb B p inp fuel s m W) (hn : s.left ≤ n) :
    Calls Tryd.prog 42 #[.pointer (some ⟨rb, 0, none⟩), gf, ga] W (EvPost rb B p inp fuel m W (callF p.funs (evF p.funs inp n) (.fn i) a s)) := by
  obtain ⟨Ta, xa, rfl⟩ := ha.shape
  cases hf with
  | @fn i b hb =>
    have hlen : i < s.made.length := by rw [← hg.falen]; exact (List.getElem?_eq_some_iff.1 hb).1
    obtain ⟨b', a0, a1, a2, ge, h1, h2, h3, h4, h5⟩ := hg.fns i hlen
    rw [hb] at h1
    cases h1
    have hstep := Lib.hid (step_any hg)
    have hcall : callF p.funs (evF p.funs inp n) (.fn i) a s = if s.left = 0 then (.cut, s) else evF p.funs inp n s.made[i].body ((s.made[i].param, a) :: s.made[i].env) { s with left := s.left - 1 } := by
      simp [callF, List.getElem?_eq_getElem hlen]
    obtain ⟨out, hout⟩ : ∃ out, callF p.funs (evF p.funs inp n) (.fn i) a s = out := ⟨_, rfl⟩
    rw [hout]
    have HO := Lib.hid (hout.symm.trans hcall)
    clear hout
    obtain ⟨A0, d0, bb0, oo0, hv, -⟩ := h3.at_
    simp only [Array.mk.injEq, List.cons.injEq, and_true] at hv
    obtain ⟨rfl, rfl, rfl⟩ := hv
    obtain ⟨pe, rfl⟩ := h5.shape
    generalize s.made[i].body.len = ml at *
    generalize s.made[i].body.last.v = mv at *
    generalize s.made[i].body.last.n = mn at *
    -- what stands in memory behind the step
    have HS := Lib.hid (fun (V : World) (m' : Mem) (hE : Evo rb m m' W V) => (show V.cell? ⟨b, 0, none⟩ = some (.int .i64 s.made[i].param) ∧ V.cell? ⟨b, 1, none⟩ = some (.slice A0 ml d0) ∧ V.cell? ⟨b, 2, none⟩ = some (.bool mv) ∧ V.cell? ⟨b, 3, none⟩ = some (.int .i64 mn) ∧ V.cell? ⟨b, 4, none⟩ = some (.pointer pe) from
      ⟨at_cell0 (h2.evo hE) rfl, at_cell0 (h2.evo hE) rfl, at_cell0 (h2.evo hE) rfl, at_cell0 (h2.evo hE) rfl, at_cell0 (h2.evo hE) rfl⟩))
    have HC := Lib.hid (fun (V V2 : World) (k1 : Nat) (hgV : Good rb B p inp fuel { s with left := s.left - 1 } m V) (hE : Evo rb m m W V) (hl : 0 < s.left) (hV2 : Below V.heap.size V V2) (l1 : V.heap.size ≤ k1)
        (q1 : V2.heap[k1]? = some (.cells #[.int .i64 s.made[i].param, .iface Ta xa, .pointer pe] 76 (0, 0))) =>
      (show Calls Tryd.prog 20 #[.pointer (some ⟨rb, 0, none⟩), .agg #[.slice A0 ml d0, .bool mv, .int .i64 mn], .pointer (some ⟨k1, 0, none⟩)] V2 (EvPost rb B p inp fuel m W (evF p.funs inp n s.made[i].body ((s.made[i].param, a) :: s.made[i].env) { s with left := s.left - 1 })) from by
        have hE2 : Evo rb m m V V2 := Evo.below hV2
        have hEE := hE.trans hE2
        have hbV : Below B W V2 := hg.stay hEE
        have henv : EnvIn rb m V2 ((s.made[i].param, a) :: s.made[i].env) (.pointer (some ⟨k1, 0, none⟩)) :=
          .cons ⟨q1, fun hm => by have := hgV.mutLt hm; omega⟩ (ha.evo hEE) (h5.evo hEE)
        exact (hok _ _ _ m V2 _ _ (h3.kept hbV) h4 henv (hgV.below hV2) (by show s.left - 1 < n; omega)).mono fun e V' h => h.from_ hEE))
    have HST := Lib.hid (fun (h : s.left = 0) (V : World) (hgV : Good rb B p inp fuel s m V) (hE : Evo rb m m W V) => (show EvPost rb B p inp fuel m W (.cut, s) (.panicked (stopV 3)) V from .cut hE hgV (thrown_one _ _)))
    generalize evF p.funs inp n s.made[i].body ((s.made[i].param, a) :: s.made[i].env) { s with left := s.left - 1 } = o at HC HO
    generalize s.made[i].param = pp at *
    clear hcall hok hg h2 h3 h4 ha hb h5 hlen
    go_enter Tryd.func42, Tryd.ntmps42
    go_wp2_with fail
    refine hstep.out.mono ?_
    rintro e V1 (⟨hl, rfl, hgV, hE⟩ | ⟨hl, rfl, hgV, hE⟩)
    · have hl0 : s.left ≠ 0 := by omega
      have ho := HO.out
      rw [if_neg hl0] at ho
      subst ho
      obtain ⟨c0, c1, c2, c3, c4⟩ := HS.out V1 m hE
      have l1 : b < V1.heap.size := World.block_lt_of_cell? _ _ c0
      have HC1 := Lib.hid (fun (V2 : World) (k1 : Nat) => HC.out V1 V2 k1 hgV hE hl)
      have HS2 := Lib.hid (fun (V : World) (hV : Below V1.heap.size V1 V) => (show V.cell? ⟨b, 0, none⟩ = some (.int .i64 pp) ∧ V.cell? ⟨b, 1, none⟩ = some (.slice A0 ml d0) ∧ V.cell? ⟨b, 2, none⟩ = some (.bool mv) ∧ V.cell? ⟨b, 3, none⟩ = some (.int .i64 mn) ∧ V.cell? ⟨b, 4, none⟩ = some (.pointer pe) from
        ⟨cell_behind hV c0, cell_behind hV c1, cell_behind hV c2, cell_behind hV c3, cell_behind hV c4⟩))
      clear HC hgV hE hstep HST hl hl0 HO
      go_wp2_with fail
      go_region_held2 (fun V => V.cell? ⟨b, 0, none⟩ = some (.int .i64 pp) ∧ V.cell? ⟨b, 1, none⟩ = some (.slice A0 ml d0) ∧ V.cell? ⟨b, 2, none⟩ = some (.bool mv) ∧ V.cell? ⟨b, 3, none⟩ = some (.int .i64 mn) ∧ V.cell? ⟨b, 4, none⟩ = some (.pointer pe))
        (first | exact HS2.out _ (Below.refl _ _).drew | exact HS2.out _ ((Below.refl _ _).alloc (Nat.le_refl _) _).drew | exact HS2.out _ ((Below.refl _ _).drew.alloc (Nat.le_refl _) _) | exact HS.out _ _ hEV)
        ((go_at_call 20; refine Calls.mono (HC1.out _ _ (by first | exact ((Below.refl _ _).alloc (Nat.le_refl _) _).drew | exact (Below.refl _ _).drew.alloc (Nat.le_refl _) _) (Nat.le_refl _) (World.alloc_heap_new _ _)) ?_; intro en V' h; obtain ⟨mE, hEV⟩ := h.evo; rcases h.ends with ⟨g, rfl, hP⟩ | ⟨ch, rfl, hP⟩; rotate_left; exact ⟨rfl, hP⟩))
      all_goals
        go_wp2_with fail
        go_ret
        exact hP
    · have ho := HO.out
      rw [if_pos hl] at ho
      subst ho
      exact ⟨rfl, HST.out hl _ hgV hE⟩
theorem call_other (T : TypeId) (hT : T = 88 ∨ T = 89 ∨ T = 112) (x ga : Value) (r : Value) (W : World) :
    Calls Tryd.prog 42 #[r, .iface T x, ga] W fun e w' => e = .panicked (stopV 4) ∧ W = w' := by
  rcases hT with rfl | rfl | rfl
  all_goals
    go_enter Tryd.func42, Tryd.ntmps42
    go_wp2_with (go_at_call 41; refine (stuck_any _).mono ?_; rintro e w' ⟨rfl, rfl⟩)
    exact ⟨rfl, rfl, rfl⟩
theorem call_any (hok : BodyOk rb B p inp fuel n) (f a : PV) {gf ga : Value} (hf : RepV rb m W f gf) (ha : RepV rb m W a ga) (hg : Good rb B p inp fuel s m W) (hn : s.left ≤ n) :
    Calls Tryd.prog 42 #[.pointer (some ⟨rb, 0, none⟩), gf, ga] W (EvPost rb B p inp fuel m W (callF p.funs (evF p.funs inp n) f a s)) := by
  have hst : ∀ e w', e = .panicked (stopV 4) ∧ W = w' → EvPost rb B p inp fuel m W (.stuck, s) e w' := fun e w' h => by
    obtain ⟨rfl, rfl⟩ := h
    exact .stuck (Evo.refl _ _ _) hg (thrown_one _ _)
  cases f with
  | fn i => exact call_fn hok i a hf ha hg hn
  | int k => cases hf; exact (call_other _ (.inl rfl) _ _ _ W).mono hst
  | blk t l => cases hf; exact (call_other _ (.inr (.inl rfl)) _ _ _ W).mono hst
  | ref i => cases hf; exact (call_other _ (.inr (.inr rfl)) _ _ _ W).mono hst
end
end Go.Proofs.YtllakbiipdcboaaDoor

/-
  Worlds of a walk that an iterator makes.
-/
set_option linter.unusedVariables false
set_option linter.unusedSimpArgs false
namespace Go.Proofs.YtllakbiipdcboaaDoor
open Go.RowKit Go.Shelf

attribute [local go_sem] Oper.semAt_some

/-- what lay below B still lies -/
def Stay (B : Nat) (w0 W : World) : Prop := ∀ b o v, b < B → w0.cell? ⟨b, o, none⟩ = some v → W.cell? ⟨b, o, none⟩ = some v
/-- of cells, all but some blocks lie as they lay -/
structure KpX (X : Nat → Prop) (W W' : World) : Prop where
  size : W.heap.size ≤ W'.heap.size
  same : ∀ (k : Nat) (o : Obj), W.heap[k]? = some o → o.isCells = true → ¬ X k → W'.heap[k]? = some o
theorem KpX.refl (X : Nat → Prop) (W : World) : KpX X W W := ⟨Nat.le_refl _, fun _ _ h _ _ => h⟩
theorem KpX.trans {X : Nat → Prop} {A B C : World} (h : KpX X A B) (k : KpX X B C) : KpX X A C := ⟨Nat.le_trans h.size k.size, fun i o hi hc hx => k.same i o (h.same i o hi hc hx) hc hx⟩
theorem KpX.alloc (X : Nat → Prop) (W : World) (o : Obj) : KpX X W (W.alloc o) := ⟨by simp, fun k o' hk _ _ => (Below.heap_alloc W o k (Array.getElem?_eq_some_iff.1 hk).1).trans hk⟩
theorem KpX.cell {X : Nat → Prop} {W W' : World} (h : KpX X W W') {b o : Nat} {v : Value} (hc : W.cell? ⟨b, o, none⟩ = some v) (hx : ¬ X b) : W'.cell? ⟨b, o, none⟩ = some v := by
  obtain ⟨ob, ho, hcc⟩ := cells_of_cell hc
  exact (World.cell?_of_block ((h.same b ob ho hcc hx).trans ho.symm)).trans hc
theorem KpX.setCell {X : Nat → Prop} (W : World) {b : Nat} (o : Nat) (v : Value) (hx : X b) : KpX X W (W.setCell ⟨b, o, none⟩ v) :=
  ⟨by simp [World.setCell], fun k ob hk _ hxk => (Below.heap_setCell W _ _ k (fun e => hxk (by subst e; exact hx))).trans hk⟩
theorem KpX.below {X : Nat → Prop} {W W' : World} (h : Below W.heap.size W W') : KpX X W W' := ⟨h.size, fun k o hk _ _ => (h.block k (Array.getElem?_eq_some_iff.1 hk).1).trans hk⟩
theorem KpX.putObj {X : Nat → Prop} (W : World) (l : Nat) (o o' : Obj) (h : W.heap[l]? = some o) (ho : o.isCells = false) : KpX X W (W.putObj l o') :=
  ⟨by simp, fun k ob hk hc _ => (World.putObj_heap_other (fun e => by subst e; rw [hk] at h; cases h; rw [hc] at ho; cases ho)).trans hk⟩
theorem Stay.step {B : Nat} {w0 A C : World} {X : Nat → Prop} (h : Stay B w0 A) (hk : KpX X A C) (hX : ∀ k, X k → B ≤ k) : Stay B w0 C :=
  fun b o v hb hc => hk.cell (h b o v hb hc) (fun hx => by have := hX b hx; omega)
theorem Stay.refl (B : Nat) (w : World) : Stay B w w := fun _ _ _ _ h => h
theorem Stay.of_below {B : Nat} {w w' : World} (h : Below B w w') : Stay B w w' := fun b o v hb hc => (h.cell (p := ⟨b, o, none⟩) hb).trans hc
theorem Stay.trans {B : Nat} {a b c : World} (h : Stay B a b) (k : Stay B b c) : Stay B a c := fun x o v hb hc => k x o v hb (h x o v hb hc)

theorem keepsOthers_of_below {W W' : World} (h : Below W.heap.size W W') : KeepsOthers W W' := ⟨h.size, fun k o hk _ => (h.block k (Array.getElem?_eq_some_iff.1 hk).1).trans hk⟩

theorem boxed_below {W W' : World} {B : Nat} {t : TypeId} {v : Value} (h : Boxed W B t v) (hb : Below W.heap.size W W') : Boxed W' B t v := (hb.block B h.lt).trans h

end Go.Proofs.YtllakbiipdcboaaDoor

/-
  slices.ContainsFunc, slices.IndexFunc over terms: what the function does is a premise.
-/
set_option linter.unusedVariables false
set_option linter.unusedSimpArgs false
namespace Go.Proofs.YtllakbiipdcboaaDoor
open Go.RowKit Go.Shelf

attribute [local go_sem] Oper.semAt_some

/-! ### slices.IndexFunc, slices.ContainsFunc over terms: what the function does is a premise -/
def IdxPost (n : Nat) (I : Nat → World → Prop) (Q : World → Prop) (e : Ending) (W' : World) : Prop := (e = .returned (.int .i64 (-1)) ∧ I n W') ∨ (∃ i : Nat, e = .returned (.int .i64 i) ∧ Q W')
def AskPost (i : Nat) (I : Nat → World → Prop) (Q : World → Prop) (e : Ending) (W' : World) : Prop := (e = .returned (.bool false) ∧ I (i + 1) W') ∨ (e = .returned (.bool true) ∧ Q W')

set_option maxRecDepth 100000 in
set_option maxHeartbeats 800000 in
theorem indexFunc_any (g : Nat) (caps : Array Value) (eg : ∀ args w, (callFunc g args).run Tryd.prog w = .ok (.enter g args) w) (Ac : Option Addr) (n c b o : Nat) (G0 G1 G2 : Nat → Value) (I : Nat → World → Prop) (Q : World → Prop) (hn : n ≤ 9000000000000000000)
    (hA : 0 < n → Ac = some ⟨b, o, none⟩)
    (hcells : ∀ i W, I i W → i < n → W.cell? ⟨b, o + i * 3, none⟩ = some (G0 i) ∧ W.cell? ⟨b, o + i * 3 + 1, none⟩ = some (G1 i) ∧ W.cell? ⟨b, o + i * 3 + 2, none⟩ = some (G2 i))
    (hcall : ∀ i W, I i W → i < n → Calls Tryd.prog g (#[.agg #[G0 i, G1 i, G2 i]] ++ caps) W (AskPost i I Q)) (W : World) (h0 : I 0 W) :
    Calls Tryd.prog 45 #[.slice Ac n c, .func (.func g) #[] caps] W (IdxPost n I Q) := by
  have H1 := Lib.hid hcells
  have H2 := Lib.hid hcall
  have H3 := Lib.hid hA
  clear hcells hcall hA
  go_enter Tryd.func45, Tryd.ntmps45
  go_wp2_with fail
  go_loopw [8] (fun i wr => ∃ k : Nat, k ≤ n ∧ i = .int .i64 k ∧ I k wr) (fun i _ => n - (intOf i).toNat)
  case atStart => exact ⟨0, by omega, rfl, h0⟩
  case round =>
    obtain ⟨k, hk, rfl, hI⟩ := hrel
    by_cases hlt : k < n
    · obtain ⟨c0, c1, c2⟩ := H1.out k wr hI hlt
      obtain rfl := H3.out (by omega)
      have hq := Lib.hid (H2.out k wr hI hlt)
      go_wp2_with fail
      refine hq.out.mono ?_
      rintro e w' (⟨rfl, hI'⟩ | ⟨rfl, hQ⟩)
      · go_wp2_with fail
        go_roundw
        case rel => exact ⟨k + 1, by omega, by go_num, hI'⟩
        case measure => simp [intOf]; omega
      · go_wp2_with fail
        go_ret
        exact .inr ⟨k, rfl, hQ⟩
    · have : k = n := by omega
      subst this
      go_wp2_with fail
      go_ret
      exact .inl ⟨rfl, hI⟩

def HasPost (n : Nat) (I : Nat → World → Prop) (Q : World → Prop) (e : Ending) (W' : World) : Prop := (e = .returned (.bool false) ∧ I n W') ∨ (e = .returned (.bool true) ∧ Q W')
theorem containsFunc_any (g : Nat) (caps : Array Value) (eg : ∀ args w, (callFunc g args).run Tryd.prog w = .ok (.enter g args) w) (Ac : Option Addr) (n c b o : Nat) (G0 G1 G2 : Nat → Value) (I : Nat → World → Prop) (Q : World → Prop) (hn : n ≤ 9000000000000000000)
    (hA : 0 < n → Ac = some ⟨b, o, none⟩)
    (hcells : ∀ i W, I i W → i < n → W.cell? ⟨b, o + i * 3, none⟩ = some (G0 i) ∧ W.cell? ⟨b, o + i * 3 + 1, none⟩ = some (G1 i) ∧ W.cell? ⟨b, o + i * 3 + 2, none⟩ = some (G2 i))
    (hcall : ∀ i W, I i W → i < n → Calls Tryd.prog g (#[.agg #[G0 i, G1 i, G2 i]] ++ caps) W (AskPost i I Q)) (W : World) (h0 : I 0 W) :
    Calls Tryd.prog 32 #[.slice Ac n c, .func (.func g) #[] caps] W (HasPost n I Q) := by
  have H := Lib.hid (indexFunc_any g caps eg Ac n c b o G0 G1 G2 I Q hn hA hcells hcall W h0)
  clear hcells hcall hA
  go_enter Tryd.func32, Tryd.ntmps32
  go_wp2_with fail
  refine H.out.mono ?_
  rintro e w' (⟨rfl, hI⟩ | ⟨i, rfl, hQ⟩)
  · go_wp2_with fail
    go_ret
    exact .inl ⟨rfl, hI⟩
  · have hi : (0 : Int) ≤ (i : Int) := by omega
    go_wp2_with fail
    go_ret
    exact .inr ⟨rfl, hQ⟩

end Go.Proofs.YtllakbiipdcboaaDoor

/-
  anf.all: the iterator over a term's parts: what is told, in which order; words of the walk.
-/
set_option linter.unusedVariables false
set_option linter.unusedSimpArgs false
namespace Go.Proofs.YtllakbiipdcboaaDoor
open Go.RowKit Go.Shelf

attribute [local go_sem] Oper.semAt_some

/-! ### plain words -/
mutual
def Anf.hgt : Anf → Nat
  | .ret _ => 1
  | .bind _ _ _ _ _ bl r => max (hgtLA bl + 1) r.hgt
def hgtLA : List Anf → Nat
  | [] => 0
  | c :: cs => max c.hgt (hgtLA cs)
end
theorem hgtLA_get {cs : List Anf} {i : Nat} (h : i < cs.length) : cs[i].hgt ≤ hgtLA cs := by
  induction cs generalizing i with
  | nil => simp at h
  | cons c cs ih =>
    cases i with
    | zero => simp [hgtLA]; omega
    | succ i => have := ih (i := i) (by simpa using h); simp [hgtLA]; omega
theorem hgt_tail : ∀ (t : Anf) (i : Nat), (t.tail i).hgt ≤ t.hgt
  | .ret a, 0 => Nat.le_refl _
  | .ret a, _ + 1 => Nat.le_refl _
  | .bind .., 0 => Nat.le_refl _
  | .bind x k n ats ks bl r, i + 1 => by
    have := hgt_tail r i
    simp only [Anf.tail, Anf.hgt]
    omega
theorem hgt_block {t : Anf} {i : Nat} {x k n : Int} {ats : List Atm} {ks : List Int} {bl : List Anf} {rest : Anf} (h : t.tail i = .bind x k n ats ks bl rest) : hgtLA bl + 1 ≤ t.hgt := by
  have h1 := hgt_tail t i
  rw [h, Anf.hgt] at h1
  omega
theorem partsLD_append (d : Int) (a b : List Anf) : partsLD d (a ++ b) = partsLD d a ++ partsLD d b := by
  induction a with
  | nil => simp [partsLD]
  | cons c a ih => simp [partsLD, ih]
theorem partsLD_take (d : Int) {cs : List Anf} {i : Nat} (h : i < cs.length) : partsLD d (cs.take (i + 1)) = partsLD d (cs.take i) ++ partsD d cs[i] := by
  rw [List.take_add_one, List.getElem?_eq_getElem h, partsLD_append]; simp [partsLD]
theorem partsLD_take_le (d : Int) (cs : List Anf) (i : Nat) : partsLD d (cs.take i) <+: partsLD d cs := by
  conv => rhs; rw [← List.take_append_drop i cs, partsLD_append]
  exact List.prefix_append _ _

/-- blocks in memory, cell by cell -/
structure BlkIn (B : Nat) (w : World) (A : Option Addr) (cs : List Anf) (b o : Nat) (G0 G1 G2 : Nat → Value) : Prop where
  h8 : cs.length * 40 ≤ 140737488351232
  hA : 0 < cs.length → A = some ⟨b, o, none⟩ ∧ b < B
  c0 : ∀ j, j < cs.length → w.cell? ⟨b, o + j * 3, none⟩ = some (G0 j)
  c1 : ∀ j, j < cs.length → w.cell? ⟨b, o + j * 3 + 1, none⟩ = some (G1 j)
  c2 : ∀ j, j < cs.length → w.cell? ⟨b, o + j * 3 + 2, none⟩ = some (G2 j)
  hsub : ∀ j (h : j < cs.length), BodyIn B w cs[j] #[G0 j, G1 j, G2 j]
/-- blocks in memory -/
def BlocksIn (B : Nat) (W : World) (Al : Option Addr) (bl : List Anf) : Prop :=
  bl.length * 40 ≤ 140737488351232 ∧ ∀ j (h : j < bl.length), ∃ bb oo g0 g1 g2, Al = some ⟨bb, oo, none⟩ ∧ bb < B ∧ W.cell? ⟨bb, oo + j * 3, none⟩ = some g0 ∧ W.cell? ⟨bb, oo + j * 3 + 1, none⟩ = some g1 ∧ W.cell? ⟨bb, oo + j * 3 + 2, none⟩ = some g2 ∧ BodyIn B W bl[j] #[g0, g1, g2]
theorem BlocksIn.blk {B : Nat} {w : World} {A : Option Addr} {cs : List Anf} (h : BlocksIn B w A cs) : ∃ b o G0 G1 G2, BlkIn B w A cs b o G0 G1 G2 := by
  by_cases h0 : 0 < cs.length
  · obtain ⟨b, o, _, _, _, hA, hb, _⟩ := h.2 0 h0
    have hj : ∀ j (hj : j < cs.length), ∃ g0 g1 g2, w.cell? ⟨b, o + j * 3, none⟩ = some g0 ∧ w.cell? ⟨b, o + j * 3 + 1, none⟩ = some g1 ∧ w.cell? ⟨b, o + j * 3 + 2, none⟩ = some g2 ∧ BodyIn B w cs[j] #[g0, g1, g2] := fun j hj => by
      obtain ⟨b', o', g0, g1, g2, hA', _, e0, e1, e2, hs⟩ := h.2 j hj
      rw [hA] at hA'
      simp only [Option.some.injEq, Addr.mk.injEq, and_true] at hA'
      obtain ⟨rfl, rfl⟩ := hA'
      exact ⟨g0, g1, g2, e0, e1, e2, hs⟩
    refine ⟨b, o, fun j => (w.cell? ⟨b, o + j * 3, none⟩).getD .nilIface, fun j => (w.cell? ⟨b, o + j * 3 + 1, none⟩).getD .nilIface, fun j => (w.cell? ⟨b, o + j * 3 + 2, none⟩).getD .nilIface, h.1, fun _ => ⟨hA, hb⟩, fun j hl => ?_, fun j hl => ?_, fun j hl => ?_, fun j hl => ?_⟩
    all_goals
      obtain ⟨g0, g1, g2, e0, e1, e2, hs⟩ := hj j hl
      simp only [e0, e1, e2, Option.getD_some]
    exact hs
  · exact ⟨0, 0, fun _ => .nilIface, fun _ => .nilIface, fun _ => .nilIface, h.1, fun h => absurd h h0, fun j hl => absurd hl (by omega), fun j hl => absurd hl (by omega), fun j hl => absurd hl (by omega), fun j hl => absurd hl (by omega)⟩
/-- a part as it is told: nine cells -/
inductive PartIn (B : Nat) (w : World) : Part → Array Value → Prop
  | bind {x k n : Int} {ats : List Atm} {ks : List Int} {nb : Nat} {Aa Ak Al : Option Addr} {ca ck cl : Nat} (ha : AtomsIn B w Aa ats) (hac : ats.length ≤ ca) (hk : IntsIn B w Ak ks) (hkc : ks.length ≤ ck) (hl8 : nb * 40 ≤ 140737488351232) (hlc : nb ≤ cl) :
      PartIn B w (.bind x k n ats ks nb) #[.int .i64 x, .int .i64 k, .int .i64 n, .slice Aa ats.length ca, .slice Ak ks.length ck, .slice Al nb cl, .bool false, .int .i64 0, .bool false]
  | ret (a : Atm) : PartIn B w (.ret a) #[.int .i64 0, .int .i64 0, .int .i64 0, .slice none 0 0, .slice none 0 0, .slice none 0 0, .bool a.v, .int .i64 a.n, .bool true]
structure PartX (B : Nat) (w0 : World) where
  d : Int
  q : Part
  v : Array Value
  hin : PartIn B w0 q v
  hd : 0 ≤ d ∧ d ≤ 60000
def projX {B : Nat} {w0 : World} (l : List (PartX B w0)) : List (Int × Part) := l.map fun x => (x.d, x.q)
theorem projX_append {B : Nat} {w0 : World} (a b : List (PartX B w0)) : projX (a ++ b) = projX a ++ projX b := by simp [projX]
theorem projX_length {B : Nat} {w0 : World} (a : List (PartX B w0)) : (projX a).length = a.length := by simp [projX]
theorem enters_kid : ∀ args w, (callFunc 33 args).run Tryd.prog w = .ok (.enter 33 args) w := enters_of Tryd.func33 (by kernel_rfl) rfl

/-- how a walk over a part of the term ends -/
def WalkPost {B : Nat} {w0 : World} (yes no : Bool) (l : List (Int × Part)) (X : Nat → Prop) (J Jx : List (PartX B w0) → World → Prop) (pre : List (PartX B w0)) (W : World) (e : Ending) (W' : World) : Prop :=
  (e = .returned (.bool yes) ∧ ∃ q : List (PartX B w0), projX q = l ∧ J (pre ++ q) W' ∧ KpX X W W') ∨ (e = .returned (.bool no) ∧ ∃ q : List (PartX B w0), projX q <+: l ∧ Jx (pre ++ q) W')

/-- what holds in a world in which the walk goes on -/
structure WalkAt {B : Nat} (w0 : World) (n₀ N l : Nat) (X : Nat → Prop) (J : List (PartX B w0) → World → Prop) (yb wb : Nat) (pre : List (PartX B w0)) (W : World) : Prop where
  stay : Stay B w0 W
  size : n₀ ≤ W.heap.size
  yc : W.cell? ⟨yb, 0, none⟩ = some (.func (.yield l) #[] #[])
  wc : W.cell? ⟨wb, 0, none⟩ = some (.func (.func 31) #[] #[.pointer (some ⟨yb, 0, none⟩), .pointer (some ⟨wb, 0, none⟩)])
  inv : J pre W
theorem WalkAt.alloc {B : Nat} {w0 : World} {n₀ N l : Nat} {X : Nat → Prop} {J : List (PartX B w0) → World → Prop} {yb wb : Nat} {pre : List (PartX B w0)} {W : World} (h : WalkAt w0 n₀ N l X J yb wb pre W) (hJ : AbidesFrom n₀ J) (o : Obj) : WalkAt w0 n₀ N l X J yb wb pre (W.alloc o) :=
  have hk := KpX.alloc (fun _ => False) W o
  ⟨h.stay.step hk (fun _ hx => hx.elim), by have := h.size; simp; omega, hk.cell h.yc id, hk.cell h.wc id, hJ _ _ _ none h.inv (World.grownBy_alloc W o none) (fun r e => by cases e)⟩
theorem WalkAt.step {B : Nat} {w0 : World} {n₀ N l : Nat} {X : Nat → Prop} {J : List (PartX B w0) → World → Prop} {yb wb : Nat} {pre pre' : List (PartX B w0)} {W W' : World} (h : WalkAt w0 n₀ N l X J yb wb pre W) (hX : ∀ k, X k → B ≤ k ∧ k < n₀) (hyb : n₀ ≤ yb) (hwb : n₀ ≤ wb) (hk : KpX X W W') (hJ : J pre' W') : WalkAt w0 n₀ N l X J yb wb pre' W' :=
  ⟨h.stay.step hk (fun k hx => (hX k hx).1), Nat.le_trans h.size hk.size, hk.cell h.yc (fun hx => by have := (hX _ hx).2; omega), hk.cell h.wc (fun hx => by have := (hX _ hx).2; omega), hJ⟩

/-- the walker does what it should at a term -/
def WalkOk {B : Nat} (w0 : World) (n₀ N l : Nat) (X : Nat → Prop) (J Jx : List (PartX B w0) → World → Prop) (yb wb : Nat) (t : Anf) (v : Array Value) : Prop :=
  ∀ (d : Int) pre W, 0 ≤ d → d + t.hgt ≤ 60000 → WalkAt w0 n₀ N l X J yb wb pre W → pre.length + (partsD d t).length ≤ N →
    Calls Tryd.prog 31 #[.agg v, .int .i64 d, .pointer (some ⟨yb, 0, none⟩), .pointer (some ⟨wb, 0, none⟩)] W (WalkPost true false (partsD d t) X J Jx pre W)

/-- 'func(x api.Anf) bool { return !walk(x, depth+1) }' -/
theorem kid_any {B : Nat} {w0 : World} {n₀ N l : Nat} {X : Nat → Prop} {J Jx : List (PartX B w0) → World → Prop} {yb wb : Nat} (hJ : AbidesFrom n₀ J) (t : Anf) (c0 c1 c2 : Value) (hok : WalkOk w0 n₀ N l X J Jx yb wb t #[c0, c1, c2])
    (d : Int) (hd0 : 0 ≤ d) (hd : d + 1 + t.hgt ≤ 60000) (db : Nat) (pre : List (PartX B w0)) (W : World) (hW : WalkAt w0 n₀ N l X J yb wb pre W) (hN : pre.length + (partsD (d + 1) t).length ≤ N)
    (hdb : W.cell? ⟨db, 0, none⟩ = some (.int .i64 d)) :
    Calls Tryd.prog 33 #[.agg #[c0, c1, c2], .pointer (some ⟨wb, 0, none⟩), .pointer (some ⟨db, 0, none⟩)] W (WalkPost false true (partsD (d + 1) t) X J Jx pre W) := by
  have hW1 := hW.alloc hJ (.cells #[c0, c1, c2] 26)
  have H := Lib.hid (hok (d + 1) pre _ (by omega) (by omega) hW1 hN)
  have hwc := hW.wc
  have hwb := World.block_lt_of_cell? _ _ hwc
  have hdbl := World.block_lt_of_cell? _ _ hdb
  have hdm : d < 60000 := by omega
  clear hW hW1 hok hJ
  go_enter Tryd.func33, Tryd.ntmps33
  go_wp2_with fail
  refine H.out.mono ?_
  rintro e w' (⟨rfl, q, hq, hJq, hk⟩ | ⟨rfl, q, hq, hJq⟩)
  · go_wp2_with fail
    go_ret
    exact .inl ⟨rfl, q, hq, hJq, (KpX.alloc X W _).trans hk⟩
  · go_wp2_with fail
    go_ret
    exact .inr ⟨rfl, q, hq, hJq⟩
theorem BodyIn.shape {B : Nat} {w : World} {t : Anf} {v : Array Value} (h : BodyIn B w t v) : ∃ A0 n0 d0 b1 k1, v = #[.slice A0 n0 d0, .bool b1, .int .i64 k1] := by
  obtain ⟨A, c, b, o, h1, -⟩ := h
  exact ⟨_, _, _, _, _, h1⟩
theorem BindIn.blocks {B : Nat} {w : World} {b o : Nat} {x k n : Int} {ats : List Atm} {ks : List Int} {bl : List Anf} {Aa Ak Al : Option Addr} {ca ck cl : Nat} (h : BindIn B w b o x k n ats ks bl Aa ca Ak ck Al cl) : BlocksIn B w Al bl := ⟨h.hl8, h.blk⟩
end Go.Proofs.YtllakbiipdcboaaDoor

/-
  The evaluator of terms: functions that know one another: what lies in memory while they are made.
-/
set_option linter.unusedVariables false
set_option linter.unusedSimpArgs false
namespace Go.Proofs.YtllakbiipdcboaaDoor
open Go.RowKit

theorem groupEnv_snoc : ∀ (k : Nat) (l : List Int) (x y : Int) (i : Nat) (e : PEnv), l.length = 2 * k → groupEnv (l ++ [x, y]) i e = (x, .fn (i + k)) :: groupEnv l i e
  | 0, [], x, y, i, e, _ => by simp [groupEnv]
  | k + 1, a :: b :: l, x, y, i, e, h => by
    have := groupEnv_snoc k l x y (i + 1) ((a, .fn i) :: e) (by simp at h; omega)
    simp only [List.cons_append, groupEnv]
    rw [this, show i + 1 + k = i + (k + 1) by omega]
  | k + 1, [a], x, y, i, e, h => by simp at h; omega
  | 0, _ :: _, x, y, i, e, h => by simp at h
  | k + 1, [], x, y, i, e, h => by simp at h
theorem groupEnv_take (ks : List Int) (i : Nat) (e : PEnv) {k : Nat} (h : 2 * k + 1 < ks.length) : groupEnv (ks.take (2 * (k + 1))) i e = (nth ks (2 * k), .fn (i + k)) :: groupEnv (ks.take (2 * k)) i e := by
  have h1 : ks.take (2 * (k + 1)) = ks.take (2 * k) ++ [nth ks (2 * k), nth ks (2 * k + 1)] := by
    rw [show 2 * (k + 1) = 2 * k + 1 + 1 by omega, take_snoc ks (by omega), take_snoc ks (by omega)]
    simp
  rw [h1, groupEnv_snoc k _ _ _ _ _ (by simp; omega)]
theorem groupMade_length (env : PEnv) : ∀ (q : Nat) (ks : List Int) (cs : List Anf), ks.length = 2 * q → q ≤ cs.length → (groupMade env ks cs).length = q
  | 0, [], cs, _, _ => by cases cs <;> simp [groupMade]
  | q + 1, a :: b :: ks, c :: cs, h, h' => by simp [groupMade, groupMade_length env q ks cs (by simp at h; omega) (by simp at h'; omega)]
  | 0, _ :: _, cs, h, _ => by simp at h
  | q + 1, [], cs, h, _ => by simp at h
  | q + 1, [a], cs, h, _ => by simp at h; omega
  | q + 1, a :: b :: ks, [], h, h' => by simp at h'
theorem groupMade_get (env : PEnv) : ∀ (q : Nat) (ks : List Int) (cs : List Anf), ks.length = 2 * q → (h' : q ≤ cs.length) → ∀ j (hj : j < q), (groupMade env ks cs)[j]? = some ⟨nth ks (2 * j + 1), cs[j], env⟩
  | q + 1, a :: b :: ks, c :: cs, h, h', 0, hj => by simp [groupMade, nth]
  | q + 1, a :: b :: ks, c :: cs, h, h', j + 1, hj => by
    have := groupMade_get env q ks cs (by simp at h; omega) (by simp at h'; omega) j (by omega)
    simp only [groupMade, List.getElem?_cons_succ, List.getElem_cons_succ]
    rw [this]
    simp [nth, show 2 * (j + 1) + 1 = 2 * j + 1 + 1 + 1 by omega]
  | 0, _, cs, h, _, j, hj => by omega
  | q + 1, [], cs, h, _, j, hj => by simp at h
  | q + 1, [a], cs, h, _, j, hj => by simp at h; omega
  | q + 1, a :: b :: ks, [], h, h', j, hj => by simp at h'

def Persist (w w' : World) : Prop := ∀ (b : Nat) (cs : Array Value) (T : TypeId) (fr : Nat × Nat), T = 96 ∨ T = 76 → w.heap[b]? = some (.cells cs T fr) → w'.heap[b]? = some (.cells cs T fr)
theorem Persist.trans {a b c : World} (h : Persist a b) (k : Persist b c) : Persist a c := fun i cs T fr hT hh => k i cs T fr hT (h i cs T fr hT hh)
theorem Persist.alloc (w : World) (o : Obj) : Persist w (w.alloc o) := fun b cs T fr _ hh =>
  (((Below.refl w.heap.size w).alloc (Nat.le_refl _) o).block b (Array.getElem?_eq_some_iff.1 hh).1).trans hh
theorem Persist.grown {w w' : World} {base : Nat} {v : Value} {n : Nat} {xs : List Value} (ho : w.ownsRow base 94 1 v n xs) (hg : w.grownBy w' v.ownBlock) : Persist w w' := fun b cs T fr hT hh => by
  refine (hg.block b (Array.getElem?_eq_some_iff.1 hh).1 ?_).trans hh
  rcases ho.2 with ⟨rfl, _⟩ | ⟨g, cap, cur, rfl, _, hgg, _⟩
  · simp [Value.ownBlock]
  · simp only [Value.ownBlock, ne_eq, Option.some.injEq]
    rintro rfl
    have := hh.symm.trans hgg
    simp only [Option.some.injEq, Obj.cells.injEq] at this
    rcases hT with rfl | rfl
    · exact absurd this.2.1 (by decide)
    · exact absurd this.2.1 (by decide)

/-- the links that were made -/
inductive LinkIn (n0 : Nat) (w : World) (ks : List Int) (bs : List Nat) (ge : Value) : Nat → Value → Prop
  | zero : LinkIn n0 w ks bs ge 0 ge
  | succ {k : Nat} {gp : Value} {b f : Nat} (h : LinkIn n0 w ks bs ge k gp) (hlo : n0 ≤ b) (hf : bs[k]? = some f)
      (hb : w.heap[b]? = some (.cells #[.int .i64 (nth ks (2 * k)), .iface 94 (.pointer (some ⟨f, 0, none⟩)), gp] 76 (0, 0))) : LinkIn n0 w ks bs ge (k + 1) (.pointer (some ⟨b, 0, none⟩))
theorem LinkIn.persist {n0 : Nat} {w w' : World} {ks : List Int} {bs bs' : List Nat} {ge : Value} (hp : ∀ (b : Nat) (cs : Array Value) (fr : Nat × Nat), w.heap[b]? = some (.cells cs 76 fr) → w'.heap[b]? = some (.cells cs 76 fr)) (hbs : bs <+: bs') {k : Nat} {gp : Value} (h : LinkIn n0 w ks bs ge k gp) : LinkIn n0 w' ks bs' ge k gp := by
  induction h with
  | zero => exact .zero
  | succ _ hlo hf hb ih => exact .succ ih hlo (prefix_get hbs hf) (hp _ _ _ hb)
theorem LinkIn.shape {n0 : Nat} {w : World} {ks : List Int} {bs : List Nat} {ge : Value} (hge : ∃ p, ge = .pointer p) {k : Nat} {gp : Value} (h : LinkIn n0 w ks bs ge k gp) : ∃ p, gp = .pointer p := by
  cases h with
  | zero => exact hge
  | succ => exact ⟨_, rfl⟩

/-- functions that were made so far -/
structure FixIn (W0 wr : World) (ks : List Int) (G0 G1 G2 : Nat → Value) (ge : Value) (k : Nat) (kn : Nat → Value) (bs : List Nat) (v gp : Value) : Prop where
  below : Below W0.heap.size W0 wr
  len : bs.length = k
  lo : ∀ b ∈ bs, W0.heap.size ≤ b
  nodup : bs.Nodup
  fnb : ∀ j (h : j < bs.length), wr.heap[bs[j]]? = some (.cells #[.int .i64 (nth ks (2 * j + 1)), G0 j, G1 j, G2 j, kn j] 96 (0, 0))
  row : wr.ownsRow W0.heap.size 94 1 v k (bs.map fun b => .pointer (some ⟨b, 0, none⟩))
  lk : LinkIn W0.heap.size wr ks bs ge k gp
section
variable {W0 wr : World} {ks : List Int} {G0 G1 G2 : Nat → Value} {ge : Value} {k : Nat} {kn : Nat → Value} {bs : List Nat} {v gp : Value}
theorem FixIn.start (W0 : World) (ks : List Int) (G0 G1 G2 : Nat → Value) (ge : Value) (kn : Nat → Value) : FixIn W0 W0 ks G0 G1 G2 ge 0 kn [] (.slice none 0 0) ge :=
  ⟨Below.refl _ _, rfl, by simp, by simp, by simp, ⟨by simp, .inl ⟨rfl, rfl⟩⟩, .zero⟩
/-- one more: its block, the literal of 'append', the longer slice, the link -/
theorem FixIn.more (h : FixIn W0 wr ks G0 G1 G2 ge k kn bs v gp) (hkn : kn k = .pointer none) {o : Obj} {w1 : World} {v' : Value}
    (hown : w1.ownsRow W0.heap.size 94 1 v' (k + 1) ((bs.map fun b => Value.pointer (some ⟨b, 0, none⟩)) ++ [.pointer (some ⟨wr.heap.size, 0, none⟩)]))
    (hgrow : ((wr.drew.alloc (.cells #[.int .i64 (nth ks (2 * k + 1)), G0 k, G1 k, G2 k, .pointer none] 96)).alloc o).grownBy w1 v.ownBlock) :
    FixIn W0 (w1.alloc (.cells #[.int .i64 (nth ks (2 * k)), .iface 94 (.pointer (some ⟨wr.heap.size, 0, none⟩)), gp] 76)) ks G0 G1 G2 ge (k + 1) kn (bs ++ [wr.heap.size]) v' (.pointer (some ⟨w1.heap.size, 0, none⟩)) := by
  have hs := h.below.size
  have hb1 : Below W0.heap.size W0 ((wr.drew.alloc (.cells #[.int .i64 (nth ks (2 * k + 1)), G0 k, G1 k, G2 k, .pointer none] 96)).alloc o) :=
    (h.below.drew.alloc hs _).alloc (by rw [World.size_alloc]; exact Nat.le_trans hs (Nat.le_succ _)) _
  have hb2 : Below W0.heap.size W0 w1 := hb1.grown hgrow hb1.size (fun j hj => (h.row.lt j hj).1)
  have p1 : Persist wr ((wr.drew.alloc (.cells #[.int .i64 (nth ks (2 * k + 1)), G0 k, G1 k, G2 k, .pointer none] 96)).alloc o) :=
    Persist.trans (show Persist wr _ from Persist.alloc wr.drew _) (Persist.alloc _ _)
  have hr1 := (h.row.drew.alloc (.cells #[.int .i64 (nth ks (2 * k + 1)), G0 k, G1 k, G2 k, .pointer none] 96)).alloc o
  have p2 : Persist ((wr.drew.alloc (.cells #[.int .i64 (nth ks (2 * k + 1)), G0 k, G1 k, G2 k, .pointer none] 96)).alloc o) w1 := Persist.grown hr1 hgrow
  have p3 := Persist.alloc w1 (.cells #[.int .i64 (nth ks (2 * k)), .iface 94 (.pointer (some ⟨wr.heap.size, 0, none⟩)), gp] 76)
  have hp := (p1.trans p2).trans p3
  have hfn : (w1.alloc (.cells #[.int .i64 (nth ks (2 * k)), .iface 94 (.pointer (some ⟨wr.heap.size, 0, none⟩)), gp] 76)).heap[wr.heap.size]? = some (.cells #[.int .i64 (nth ks (2 * k + 1)), G0 k, G1 k, G2 k, .pointer none] 96 (0, 0)) :=
    (p2.trans p3) _ _ _ _ (.inl rfl) ((Persist.alloc _ o) _ _ _ _ (.inl rfl) (World.alloc_heap_new wr.drew _))
  refine ⟨hb2.alloc hb2.size _, by simp [h.len], ?_, ?_, ?_, ?_, ?_⟩
  · intro b hb
    rcases List.mem_append.1 hb with hb | hb
    · exact h.lo b hb
    · simp at hb; omega
  · rw [List.nodup_append]
    refine ⟨h.nodup, by simp, fun x hx y hy => ?_⟩
    obtain ⟨i, hi, rfl⟩ := List.getElem_of_mem hx
    have := (Array.getElem?_eq_some_iff.1 (h.fnb i hi)).1
    simp at hy; omega
  · intro j hj
    by_cases hjk : j < bs.length
    · rw [List.getElem_append_left hjk]
      exact hp _ _ _ _ (.inl rfl) (h.fnb j hjk)
    · have : j = k := by simp at hj; have := h.len; omega
      subst this
      have h' : (bs ++ [wr.heap.size])[j] = wr.heap.size := by rw [List.getElem_append_right (by omega)]; simp
      rw [h', hfn, hkn]
  · have := hown.alloc (.cells #[.int .i64 (nth ks (2 * k)), .iface 94 (.pointer (some ⟨wr.heap.size, 0, none⟩)), gp] 76)
    simpa using this
  · refine .succ (h.lk.persist (fun b cs fr hh => hp b cs _ fr (.inr rfl) hh) (List.prefix_append _ _)) hb2.size (f := wr.heap.size) ?_ (World.alloc_heap_new w1 _)
    rw [← h.len, List.getElem?_append_right (Nat.le_refl _)]; simp
/-- the functions get to know -/
theorem FixIn.know (h : FixIn W0 wr ks G0 G1 G2 ge k kn bs v gp) {j : Nat} (hj : j < bs.length) (u : Value) :
    FixIn W0 (wr.setCell ⟨bs[j], 4, none⟩ u) ks G0 G1 G2 ge k (fun i => if i = j then u else kn i) bs v gp := by
  have hlo := h.lo _ (List.getElem_mem hj)
  have hfj := h.fnb j hj
  refine ⟨h.below.setCell (p := ⟨bs[j], 4, none⟩) hlo _, h.len, h.lo, h.nodup, ?_, ?_, ?_⟩
  · intro i hi
    by_cases hij : i = j
    · subst hij
      rw [heap_set_self hfj]
      simp
    · have hne : bs[i] ≠ bs[j] := fun e => by
        have hp := List.pairwise_iff_getElem.1 h.nodup
        rcases Nat.lt_or_gt_of_ne hij with hlt | hgt
        · exact hp i j hi hj hlt e
        · exact hp j i hj hi hgt e.symm
      rw [heap_set_ne hne, h.fnb i hi]
      simp [hij]
  · refine h.row.kept (row := some bs[j]) ⟨rfl, rfl, rfl, by simp [World.setCell], fun i hi hne => heap_set_ne (fun e => hne (by rw [e])) _ _⟩ ?_
    rcases h.row.2 with ⟨rfl, _⟩ | ⟨g, cap, cur, rfl, _, hgg, _⟩
    · exact .inl rfl
    · refine .inr ?_
      simp only [Value.ownBlock, ne_eq, Option.some.injEq]
      rintro rfl
      have := hfj.symm.trans hgg
      simp only [Option.some.injEq, Obj.cells.injEq] at this
      exact absurd this.2.1 (by decide)
  · refine h.lk.persist (fun b cs fr hh => ?_) (List.prefix_refl _)
    refine (heap_set_ne ?_ _ _).trans hh
    rintro rfl
    have := hfj.symm.trans hh
    simp only [Option.some.injEq, Obj.cells.injEq] at this
    exact absurd this.2.1 (by decide)
end

section
variable {rb B : Nat} {p : FlatP} {inp : List Int} {fuel n : Nat} {s : FSt} {m : Mem} {W W0 W' : World}
/-- what is known behind it -/
theorem LinkIn.env {ks : List Int} {bs : List Nat} {ge : Value} {k : Nat} {gp : Value} (h : LinkIn W0.heap.size W' ks bs ge k gp) (hm : ∀ k, W0.heap.size ≤ k → ¬ m.mut rb k) (hk : 2 * k ≤ ks.length) {m' : Mem} (hm' : ∀ k, m'.mut rb k ↔ m.mut rb k) (hfa : ∀ j b, bs[j]? = some b → m'.fa[s.made.length + j]? = some b)
    {e : PEnv} (he : EnvIn rb m' W' e ge) : EnvIn rb m' W' (groupEnv (ks.take (2 * k)) s.made.length e) gp := by
  induction h with
  | zero => simpa [groupEnv] using he
  | @succ k gp b f h hlo hf hb ih =>
    rw [groupEnv_take ks _ _ (by omega)]
    exact .cons ⟨hb, fun hx => hm b hlo ((hm' b).1 hx)⟩ (.fn (hfa _ _ hf)) (ih (by omega))

theorem Good.fixed (hg : Good rb B p inp fuel s m W) (hW0 : Below W.heap.size W W0) {ks : List Int} {cs : List Anf} {Ac : Option Addr} {b o : Nat} {G0 G1 G2 : Nat → Value} (hK : BlkIn B W Ac cs b o G0 G1 G2) (hwt : ∀ c ∈ cs, WfA p.funs.length c) {q : Nat} (hks : ks.length = 2 * q) (hq : q ≤ cs.length)
    {e : PEnv} {ge : Value} (he : EnvIn rb m W e ge) {bs : List Nat} {v gp : Value} (h : FixIn W0 W' ks G0 G1 G2 ge q (fun _ => gp) bs v gp) :
    Good rb B p inp fuel { s with made := s.made ++ groupMade (groupEnv ks s.made.length e) ks cs } { m with fa := m.fa ++ bs } W' ∧ Evo rb m { m with fa := m.fa ++ bs } W W' ∧ EnvIn rb { m with fa := m.fa ++ bs } W' (groupEnv ks s.made.length e) gp := by
  have hsz := hW0.size
  have hbW : Below W.heap.size W W' := hW0.trans (h.below.mono hsz)
  have hk : Evo rb m { m with fa := m.fa ++ bs } W W' := (Evo.below hbW).more (List.prefix_append _ _) (List.prefix_refl _) (fun k hk => .inl hk)
  have hgW := hg.below hbW
  have henv : EnvIn rb { m with fa := m.fa ++ bs } W' (groupEnv ks s.made.length e) gp := by
    have := h.lk.env (s := s) (m := m) (m' := { m with fa := m.fa ++ bs }) (rb := rb) (fun k hk hm => by have := hg.mutLt hm; omega) (by omega) (fun k => Iff.rfl) (fun j f hf => ?_) (he.evo hk)
    · rwa [List.take_of_length_le (by omega)] at this
    · show (m.fa ++ bs)[s.made.length + j]? = _
      rw [← hg.falen, List.getElem?_append_right (by omega)]
      simpa using hf
  have hl : (groupMade (groupEnv ks s.made.length e) ks cs).length = q := groupMade_length _ q ks cs hks hq
  refine ⟨⟨hgW.Bs, hg.rbB, hg.left, hg.fuelB, hg.bnd, hgW.run, hgW.out, ?_, ?_, hg.calen, ?_, hg.nodup, hg.rbca, hg.rbo, hg.oca, hg.caB⟩, hk, henv⟩
  · show (m.fa ++ bs).length = (s.made ++ _).length
    simp [hg.falen, hl, h.len]
  · intro i hi
    by_cases hi' : i < s.made.length
    · obtain ⟨b', c0, c1, c2, kp, h1, h2, h3, h4, h5⟩ := hg.fnsEvo hk i hi'
      simp only [List.getElem_append_left hi']
      exact ⟨b', c0, c1, c2, kp, h1, h2, h3, h4, h5⟩
    · have hj : i - s.made.length < q := by simp [hl] at hi; omega
      have hjb : i - s.made.length < bs.length := by rw [h.len]; exact hj
      have hget := groupMade_get (groupEnv ks s.made.length e) q ks cs hks hq (i - s.made.length) hj
      have hget' : (s.made ++ groupMade (groupEnv ks s.made.length e) ks cs)[i] = ⟨nth ks (2 * (i - s.made.length) + 1), cs[i - s.made.length], groupEnv ks s.made.length e⟩ := by
        rw [List.getElem_append_right (by omega)]
        rw [List.getElem?_eq_getElem (by omega)] at hget
        exact Option.some.inj hget
      simp only [hget']
      refine ⟨bs[i - s.made.length], _, _, _, gp, ?_, ⟨h.fnb _ hjb, ?_⟩, (hK.hsub _ (by omega)).kept (hg.stay hk), hwt _ (List.getElem_mem _), henv⟩
      · show (m.fa ++ bs)[i]? = _
        rw [List.getElem?_append_right (by rw [hg.falen]; omega), hg.falen, List.getElem?_eq_getElem hjb]
      · intro hm
        have := hg.mutLt (k := bs[i - s.made.length]) hm
        have := h.lo _ (List.getElem_mem hjb)
        omega
  · intro i hi
    obtain ⟨b', gv, h1, h2, h3⟩ := hg.cells i hi
    exact ⟨b', gv, h1, (hbW.block b' (Array.getElem?_eq_some_iff.1 h2).1).trans h2, h3.evo hk⟩
end
end Go.Proofs.YtllakbiipdcboaaDoor
