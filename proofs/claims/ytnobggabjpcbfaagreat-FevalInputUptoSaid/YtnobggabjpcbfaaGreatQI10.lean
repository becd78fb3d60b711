/-
 3 texts of this seat in one: H8 H9 H10.
-/
import Derived.Test.YtnobggabjpcbfaaGreatQI5
set_option maxRecDepth 100000
set_option maxHeartbeats 16000000
set_option linter.unusedVariables false
set_option linter.unusedSimpArgs false
namespace Go.Proofs.YtnobggabjpcbfaaGreat
open Go.RowKit
theorem EvPost.inv {rb B : Nat} {p : FlatP} {inp : List Int} {fuel : Nat} {m : Mem} {W : World} {o : FOut} {e : Ending} {V : World} (h : EvPost rb B p inp fuel m W o e V) :
 (∃ v s' m' T x, o = (.val v, s') ∧ e = .returned (.iface T x) ∧ Evo rb m m' W V ∧ Good rb B p inp fuel s' m' V ∧ RepV rb m' V v (.iface T x)) ∨
  (∃ ch, e = .panicked ch ∧ (∀ v s', o ≠ (.val v, s')) ∧ EvPost rb B p inp fuel m W o (.panicked ch) V ∧ ∀ f, EvPost rb B p inp fuel m W (FOut.andThen o f) (.panicked ch) V) := by
 cases h with
 | val h1 h2 h3 => obtain ⟨T, x, rfl⟩ := h3.shape; exact .inl ⟨_, _, _, T, x, rfl, rfl, h1, h2, h3⟩
 | raised h1 h2 h3 h4 h5 => exact .inr ⟨_, rfl, by simp, .raised h1 h2 h3 h4 h5, fun f => .raised h1 h2 h3 h4 h5⟩
 | stuck h1 h2 h3 => exact .inr ⟨_, rfl, by simp, .stuck h1 h2 h3, fun f => .stuck h1 h2 h3⟩
 | cut h1 h2 h3 => exact .inr ⟨_, rfl, by simp, .cut h1 h2 h3, fun f => .cut h1 h2 h3⟩
theorem two_new1 (X : World) (a b : Obj) : ((X.alloc a).alloc b).heap[X.heap.size]? = some a :=
 (((Below.refl _ _).alloc (Nat.le_refl _) b : Below (X.alloc a).heap.size (X.alloc a) _).block X.heap.size (by simp)).trans (World.alloc_heap_new X a)
theorem two_new2 (X : World) (a b : Obj) : ((X.alloc a).alloc b).heap[X.heap.size + 1]? = some b := by
 have := World.alloc_heap_new (X.alloc a) b
 rwa [World.size_alloc] at this
theorem below_two (X : World) (a b : Obj) : Below X.heap.size X ((X.alloc a).alloc b) := ((Below.refl _ _).alloc (Nat.le_refl _) _).alloc (by rw [World.size_alloc]; exact Nat.le_succ _) _
theorem three_new1 (X : World) (f a b : Obj) : (((X.alloc f).alloc a).alloc b).drew.heap[X.heap.size + 1]? = some a := by
 have := two_new1 (X.alloc f) a b
 rwa [World.size_alloc] at this
theorem three_new2 (X : World) (f a b : Obj) : (((X.alloc f).alloc a).alloc b).drew.heap[X.heap.size + 1 + 1]? = some b := by
 have := two_new2 (X.alloc f) a b
 rwa [World.size_alloc] at this
theorem below_three (X : World) (f a b : Obj) : Below X.heap.size X (((X.alloc f).alloc a).alloc b).drew := ((below_two X f a).alloc (by rw [World.size_alloc, World.size_alloc]; omega) b).drew
section
variable {rb B : Nat} {p : FlatP} {inp : List Int} {fuel n : Nat} {s : FSt} {m : Mem} {W : World}
theorem call_fn (hok : BodyOk rb B p inp fuel n) (hwf : ∀ g ∈ p.funs, WfA p.funs.length g.body) (i : Nat) (a : PV) {gf ga : Value} (hf : RepV rb m W (.fn i) gf) (ha : RepV rb m W a ga) (hg : Good rb B p inp fuel s m W) (hn : s.left ≤ n) :
 Calls Tryz.prog 84 #[.pointer (some ⟨rb, 0, none⟩), gf, ga] W (EvPost rb B p inp fuel m W (callF p.funs (evF p.funs inp n) (.fn i) a s)) := by
 obtain ⟨Ta, xa, rfl⟩ := ha.shape
 have hf0 := hf
 cases hf with
 | @fn i b hb =>
  have hlen : i < s.made.length := by rw [← hg.falen]; exact (List.getElem?_eq_some_iff.1 hb).1
  obtain ⟨b', A, cap, h1, h2, h3, h255, h4, h5, h6⟩ := hg.fns i hlen
  rw [hb] at h1
  cases h1
  obtain ⟨j, hj⟩ : ∃ j : Nat, s.made[i].1 = (j : Int) := ⟨s.made[i].1.toNat, by omega⟩
  have hjl : j < p.funs.length := by omega
  have hstep := Lib.hid (step_any hg)
  rw [hj] at h2
  have hcall : callF p.funs (evF p.funs inp n) (.fn i) a s = if s.left = 0 then (.cut, s) else evF p.funs inp n p.funs[j].body [(p.funs[j].param, a), (p.funs[j].env, .fn i)] { s with left := s.left - 1 } := by
   simp [callF, List.getElem?_eq_getElem hlen, hj, List.getElem?_eq_getElem hjl]
  obtain ⟨out, hout⟩ : ∃ out, callF p.funs (evF p.funs inp n) (.fn i) a s = out := ⟨_, rfl⟩
  rw [hout]
  have HO := Lib.hid (hout.symm.trans hcall)
  clear hout
  -- what stands in memory behind the step
  have HS := Lib.hid (fun (V : World) (s' : FSt) (hgV : Good rb B p inp fuel s' m V) (hE : Evo rb m m W V) => (show ∃ Af cf b2 o2 g0 g1 g2 f1 f2 f3, V.cell? ⟨rb, 0, none⟩ = some (.slice (some ⟨b2, o2, none⟩) p.funs.length cf) ∧ p.funs.length ≤ cf ∧ V.cell? ⟨b, 0, none⟩ = some (.int .i64 (j : Int)) ∧
   V.cell? ⟨b2, o2 + j * 5, none⟩ = some (.int .i64 p.funs[j].env) ∧ V.cell? ⟨b2, o2 + j * 5 + 1, none⟩ = some (.int .i64 p.funs[j].param) ∧ V.cell? ⟨b2, o2 + j * 5 + 2, none⟩ = some g0 ∧ V.cell? ⟨b2, o2 + j * 5 + 3, none⟩ = some g1 ∧ V.cell? ⟨b2, o2 + j * 5 + 4, none⟩ = some g2 ∧
   BodyIn B V p.funs[j].body #[g0, g1, g2] ∧ Af = (0 : Nat) ∧ f1 = (0 : Nat) ∧ f2 = (0 : Nat) ∧ f3 = (0 : Nat) from by
   obtain ⟨f0, f1, f2, f3, Ai, ci, hr, hfl, -, -⟩ := hgV.run
   obtain ⟨Af, cf, b2, o2, m0, m1, m2, hv, k1, k2, k3, k4, k5⟩ := hfl
   simp only [Array.mk.injEq, List.cons.injEq, and_true] at hv
   obtain ⟨rfl, rfl, rfl, rfl⟩ := hv
   obtain ⟨rfl, -⟩ := k4 (by omega)
   obtain ⟨g0, g1, g2, e0, e1, e2, e3, e4, e5⟩ := k5 j hjl
   exact ⟨0, cf, b2, o2, g0, g1, g2, 0, 0, 0, by simp [World.cell?, hr], k1, at_cell0 (h2.evo hE) rfl, e0, e1, e2, e3, e4, e5, rfl, rfl, rfl, rfl⟩))
  have HC := Lib.hid (fun (V V2 : World) (k1 k2 : Nat) (g0 g1 g2 : Value) (hgV : Good rb B p inp fuel { s with left := s.left - 1 } m V) (hE : Evo rb m m W V) (hbd : BodyIn B V p.funs[j].body #[g0, g1, g2]) (hl : 0 < s.left) (hV2 : Below V.heap.size V V2) (l1 : V.heap.size ≤ k1) (l2 : V.heap.size ≤ k2)
   (q1 : V2.heap[k1]? = some (.cells #[.int .i64 p.funs[j].env, .iface 145 (.pointer (some ⟨b, 0, none⟩)), .pointer none] 124 (0, 0)))
   (q2 : V2.heap[k2]? = some (.cells #[.int .i64 p.funs[j].param, .iface Ta xa, .pointer (some ⟨k1, 0, none⟩)] 124 (0, 0))) =>
   (show Calls Tryz.prog 40 #[.pointer (some ⟨rb, 0, none⟩), .agg #[g0, g1, g2], .pointer (some ⟨k2, 0, none⟩)] V2 (EvPost rb B p inp fuel m W (evF p.funs inp n p.funs[j].body [(p.funs[j].param, a), (p.funs[j].env, .fn i)] { s with left := s.left - 1 })) from by
    have hE2 : Evo rb m m V V2 := Evo.below hV2
    have hEE := hE.trans hE2
    have hbV : Below B V V2 := hV2.mono hgV.Bs
    have henv : EnvIn rb m V2 [(p.funs[j].param, a), (p.funs[j].env, .fn i)] (.pointer (some ⟨k2, 0, none⟩)) :=
     .cons ⟨q2, fun hm => by have := hgV.mutLt hm; omega⟩ (ha.evo hEE) (.cons ⟨q1, fun hm => by have := hgV.mutLt hm; omega⟩ (hf0.evo hEE) .nil)
    exact (hok _ _ _ m V2 _ _ (hbd.kept hbV) (hwf _ (List.getElem_mem hjl)) henv (hgV.below hV2) (by show s.left - 1 < n; omega)).mono fun e V' h => h.from_ hEE))
  have HJ := Lib.hid hjl
  have HST := Lib.hid (fun (h : s.left = 0) (V : World) (hgV : Good rb B p inp fuel s m V) (hE : Evo rb m m W V) => (show EvPost rb B p inp fuel m W (.cut, s) (.panicked (stopV 3)) V from .cut hE hgV (thrown_one _ _)))
  have hjl0 : (j : Int) < (p.funs.length : Int) := by omega
  generalize evF p.funs inp n p.funs[j].body [(p.funs[j].param, a), (p.funs[j].env, .fn i)] { s with left := s.left - 1 } = o at HC HO
  generalize p.funs[j].env = ee at *
  generalize p.funs[j].param = pp at *
  generalize p.funs[j].body = bo at *
  clear hcall hok hg h2 h3 h4 ha hf0 hb h5 h6 hj hwf h255
  have hj0 : (0 : Int) ≤ (j : Int) := by omega
  generalize p.funs.length = NF at *
  go_enter Tryz.func84, Tryz.ntmps84
  go_wp2_with fail
  refine hstep.out.mono ?_
  rintro e V1 (⟨hl, rfl, hgV, hE⟩ | ⟨hl, rfl, hgV, hE⟩)
  · have hl0 : s.left ≠ 0 := by omega
    have ho := HO.out
    rw [if_neg hl0] at ho
    subst ho
    obtain ⟨-, cf, b2, o2, g0, g1, g2, -, -, -, c0, hcf, cb, e0, e1, e2, e3, e4, hbd, -, -, -, -⟩ := HS.out V1 _ hgV hE
    obtain ⟨A0, d0, bb0, oo0, hv, -⟩ := hbd.at_
    simp only [Array.mk.injEq, List.cons.injEq, and_true] at hv
    obtain ⟨rfl, rfl, rfl⟩ := hv
    have l0 : rb < V1.heap.size := World.block_lt_of_cell? _ _ c0
    have l1 : b < V1.heap.size := World.block_lt_of_cell? _ _ cb
    have l2 : b2 < V1.heap.size := World.block_lt_of_cell? _ _ e0
    have HC1 := Lib.hid (fun (V2 : World) (k1 k2 : Nat) => HC.out V1 V2 k1 k2 _ _ _ hgV hE hbd hl)
    clear HC HS hgV hE hbd hstep HST hl hl0 HO
    go_wp2_with fail
    go_region
    all_goals go_wp2_with fail
    all_goals
     refine (HC1.out _ _ _ (below_three _ _ _ _) (Nat.le_succ _) (Nat.le_succ_of_le (Nat.le_succ _)) (three_new1 _ _ _ _) (three_new2 _ _ _ _)).mono ?_
     intro e V' h
     rcases h.ends with ⟨g, rfl, hP⟩ | ⟨ch, rfl, hP⟩
     · go_wp2_with fail
       go_ret
       exact hP
     · exact ⟨rfl, hP⟩
  · have ho := HO.out
    rw [if_pos hl] at ho
    subst ho
    exact ⟨rfl, HST.out hl _ hgV hE⟩
theorem call_other (T : TypeId) (hT : T = 115 ∨ T = 116 ∨ T = 156) (x ga : Value) (r : Value) (W : World) :
 Calls Tryz.prog 84 #[r, .iface T x, ga] W fun e w' => e = .panicked (stopV 4) ∧ W = w' := by
 rcases hT with rfl | rfl | rfl
 all_goals
  go_enter Tryz.func84, Tryz.ntmps84
  go_wp2_with (go_at_call 60; refine (stuck_any _).mono ?_; rintro e w' ⟨rfl, rfl⟩)
  exact ⟨rfl, rfl, rfl⟩
theorem call_any (hok : BodyOk rb B p inp fuel n) (hwf : ∀ g ∈ p.funs, WfA p.funs.length g.body) (f a : PV) {gf ga : Value} (hf : RepV rb m W f gf) (ha : RepV rb m W a ga) (hg : Good rb B p inp fuel s m W) (hn : s.left ≤ n) :
 Calls Tryz.prog 84 #[.pointer (some ⟨rb, 0, none⟩), gf, ga] W (EvPost rb B p inp fuel m W (callF p.funs (evF p.funs inp n) f a s)) := by
 have hst : ∀ e w', e = .panicked (stopV 4) ∧ W = w' → EvPost rb B p inp fuel m W (.stuck, s) e w' := fun e w' h => by
  obtain ⟨rfl, rfl⟩ := h
  exact .stuck (Evo.refl _ _ _) hg (thrown_one _ _)
 cases f with
 | fn i => exact call_fn hok hwf i a hf ha hg hn
 | int k => cases hf; exact (call_other _ (.inl rfl) _ _ _ W).mono hst
 | blk t l => cases hf; exact (call_other _ (.inr (.inl rfl)) _ _ _ W).mono hst
 | ref i => cases hf; exact (call_other _ (.inr (.inr rfl)) _ _ _ W).mono hst
end
end Go.Proofs.YtnobggabjpcbfaaGreat
namespace Go.Proofs.YtnobggabjpcbfaaGreat
open Go.RowKit
/-! ### a store into a variable that no value of the run lies in -/
structure Odd (rb B : Nat) (m : Mem) (W : World) (b : Nat) (T : TypeId) (x : Value) : Prop where
 lies : W.heap[b]? = some (.cells #[x] T (0, 0))
 ty : T = 92 ∨ T = 4
 odd : ∀ U y, x ≠ .iface U y
 still : ¬ m.mut rb b
 lo : B ≤ b
section
variable {rb B : Nat} {p : FlatP} {inp : List Int} {fuel : Nat} {s : FSt} {m : Mem} {W : World} {b : Nat} {T : TypeId} {x : Value}
theorem Odd.heap (h : Odd rb B m W b T x) (v : Value) {k : Nat} (hk : k ≠ b) : (W.setCell ⟨b, 0, none⟩ v).heap[k]? = W.heap[k]? := Below.heap_setCell W _ _ k hk
theorem Odd.at_ (h : Odd rb B m W b T x) (v : Value) {k : Nat} {cs : Array Value} {U : TypeId} {fr : Nat × Nat} (hU : U ≠ 92 ∧ U ≠ 4) (ha : At rb m W k (.cells cs U fr)) : At rb m (W.setCell ⟨b, 0, none⟩ v) k (.cells cs U fr) := by
 refine ⟨(h.heap v ?_).trans ha.1, ha.2⟩
 rintro rfl
 have := h.lies.symm.trans ha.1
 simp only [Option.some.injEq, Obj.cells.injEq] at this
 rcases h.ty with h1 | h1
 · exact hU.1 (this.2.1.symm.trans h1)
 · exact hU.2 (this.2.1.symm.trans h1)
theorem Odd.rep (h : Odd rb B m W b T x) (v : Value) {p : PV} {g : Value} (hr : RepV rb m W p g) : RepV rb m (W.setCell ⟨b, 0, none⟩ v) p g := by
 induction hr with
 | int n => exact .int n
 | @blk tag kids bb g cap F hb hg hgm hl hp h8 hc hk ih =>
  refine .blk (h.at_ v (by decide) hb) (by simpa [World.setCell] using hg) hgm hl hp h8 (fun j hj => ?_) ih
  refine (cell_of_heap (h.heap v ?_) j).trans (hc j hj)
  rintro rfl
  obtain ⟨U, y, hF⟩ := (hk 0 (by omega)).shape
  have h0 := hc 0 (by omega)
  simp [World.cell?, h.lies, hF] at h0
  exact h.odd _ _ h0
 | fn h => exact .fn h
 | ref h => exact .ref h
theorem Odd.row (h : Odd rb B m W b T x) (v : Value) {l : List PV} {A : Option Addr} (hr : RowV rb m W l A) : RowV rb m (W.setCell ⟨b, 0, none⟩ v) l A := fun h0 => by
 obtain ⟨g, o, F, h1, h2, h3, h4, h5⟩ := hr h0
 refine ⟨g, o, F, h1, by simpa [World.setCell] using h2, h3, fun j hj => ?_, fun j hj => h.rep v (h5 j hj)⟩
 refine (cell_of_heap (h.heap v ?_) _).trans (h4 j hj)
 rintro rfl
 obtain ⟨U, y, hF⟩ := (h5 j hj).shape
 have h6 := h4 j hj
 rw [hF] at h6
 simp only [World.cell?, h.lies] at h6
 cases hoj : o + j with
 | zero => rw [hoj] at h6; simp at h6; exact h.odd _ _ h6
 | succ k => rw [hoj] at h6; simp at h6
theorem Odd.good (h : Odd rb B m W b T x) (v : Value) (hg : Good rb B p inp fuel s m W) : Good rb B p inp fuel s m (W.setCell ⟨b, 0, none⟩ v) := by
 have hst : Below B W (W.setCell ⟨b, 0, none⟩ v) := ⟨rfl, rfl, rfl, by simp [World.setCell], fun k hk => h.heap v (by have := h.lo; omega)⟩
 obtain ⟨f0, f1, f2, f3, Ai, ci, hr, hfl, hi, hci⟩ := hg.run
 refine ⟨by simpa [World.setCell] using hg.Bs, hg.rbB, hg.left, hg.fuelB, hg.bnd, ⟨f0, f1, f2, f3, Ai, ci, (h.heap v (fun e => h.still (.inl e.symm))).trans hr, hfl.kept hst, hi.below hst, hci⟩, ?_, hg.falen, ?_, hg.calen, ?_, hg.nodup, hg.rbca, hg.rbo, hg.oca, hg.caB⟩
 · refine hg.out.kept (row := some b) ⟨rfl, rfl, rfl, by simp [World.setCell], fun i hi hne => h.heap v (fun e => hne (by rw [e]))⟩ ?_
   cases ho : m.vo.ownBlock with
   | none => exact .inl rfl
   | some k => exact .inr fun e => h.still (.inr (.inl (ho.trans (by simpa using e))))
 · intro i hi'
   obtain ⟨b', A, cap, h1, h2, h3, h4, h5, h6⟩ := hg.fns i hi'
   exact ⟨b', A, cap, h1, h.at_ v (by decide) h2, h3, h4, h.row v h5, h6⟩
 · intro i hi'
   obtain ⟨b', gv, h1, h2, h3⟩ := hg.cells i hi'
   refine ⟨b', gv, h1, (h.heap v ?_).trans h2, h.rep v h3⟩
   rintro rfl
   exact h.still (.inr (.inr (List.mem_of_getElem? h1)))
theorem Odd.other (h : Odd rb B m W b T x) (v : Value) {c : Nat} {U : TypeId} {y : Value} (hc : Odd rb B m W c U y) (hne : c ≠ b) : Odd rb B m (W.setCell ⟨b, 0, none⟩ v) c U y :=
 ⟨(h.heap v hne).trans hc.lies, hc.ty, hc.odd, hc.still, hc.lo⟩
end
/-! ### the deferred closure -/
theorem caught1_idle (a b : Addr) (w : World) :
 CallsD Tryz.prog 99 #[.pointer (some a), .pointer (some b)] .returning w fun e u' w' => e = .returned (.tuple #[]) ∧ u' = .returning ∧ w' = w := by
 refine callsD_of_wpS Tryz.func99 rfl fun c₀ cs hu => ?_
 apply wpS_seq
 apply wpS_region
 simp [wpOpsS, go_sem, recoverD, hu, Tryz.ntmps99, Exit.thenS]
 refine wpS_of_wp ?_
 go_wp2_with fail
 cases c₀
 simp_all [bodyPostS, results, Tryz.results99]
theorem caught1_raised (ab bb : Nat) (T : TypeId) (y : Value) (older : List PanicEntry) (w : World) (ha : w.cell? ⟨ab, 0, none⟩ = some .nilIface) (hb : w.cell? ⟨bb, 0, none⟩ = some (.bool false)) (fa : w.frozen? ⟨ab, 0, none⟩ = false) (fb : w.frozen? ⟨bb, 0, none⟩ = false) (hab : ab ≠ bb) :
 CallsD Tryz.prog 99 #[.pointer (some ⟨ab, 0, none⟩), .pointer (some ⟨bb, 0, none⟩)] (.panicking ({ v := .iface 94 (.agg #[.iface T y]), recovered := false } :: older)) w
  fun e u' w' => e = .returned (.tuple #[]) ∧ u' = .panicking ({ v := .iface 94 (.agg #[.iface T y]), recovered := true } :: older) ∧ w' = ((w.alloc (.cells #[.iface T y] 94)).setCell ⟨ab, 0, none⟩ (.iface T y)).setCell ⟨bb, 0, none⟩ (.bool true) := by
 have hal := World.block_lt_of_cell? _ _ ha
 have hbl := World.block_lt_of_cell? _ _ hb
 have hn := World.new_ne _ _ ha
 have hn' := World.new_ne _ _ hb
 refine callsD_of_wpS Tryz.func99 rfl fun c₀ cs hu => ?_
 apply wpS_seq
 apply wpS_region
 simp [wpOpsS, go_sem, recoverD, hu, Tryz.ntmps99, Exit.thenS]
 refine wpS_of_wp (Code.wp_mono (Q := fun e a w' => e = .normal ∧ a.defers = [] ∧ w' = ((w.alloc (.cells #[.iface T y] 94)).setCell ⟨ab, 0, none⟩ (.iface T y)).setCell ⟨bb, 0, none⟩ (.bool true)) ?_ ?_)
 · rintro e a w' ⟨rfl, h1, rfl⟩
   cases c₀
   simp_all [bodyPostS, results, Tryz.results99]
 simp only [Array.replicate_succ, Array.replicate_zero, List.push_toArray, List.setIfInBounds_toArray, List.set_cons_zero, List.set_cons_succ, List.append_toArray, List.nil_append, List.cons_append]
 clear hu
 go_wp2_with fail
theorem caught1_stop (a b : Addr) (x : Value) (older : List PanicEntry) (w : World) :
 CallsD Tryz.prog 99 #[.pointer (some a), .pointer (some b)] (.panicking ({ v := .iface 90 x, recovered := false } :: older)) w
  fun e u' w' => e = .panicked [{ v := .iface 90 x, recovered := false }] ∧ u' = .panicking ({ v := .iface 90 x, recovered := true } :: older) ∧ w' = w := by
 refine callsD_of_wpS Tryz.func99 rfl fun c₀ cs hu => ?_
 apply wpS_seq
 apply wpS_region
 simp [wpOpsS, go_sem, recoverD, hu, Tryz.ntmps99, Exit.thenS]
 refine wpS_of_wp (Code.wp_mono (Q := fun e a w' => e = .panic [{ v := .iface 90 x, recovered := false }] ∧ a.defers = [] ∧ w' = w) ?_ ?_)
 · rintro e a w' ⟨rfl, h1, rfl⟩
   cases c₀
   simp_all [bodyPostS, results, Tryz.results99]
 simp only [Array.replicate_succ, Array.replicate_zero, List.push_toArray, List.setIfInBounds_toArray, List.set_cons_zero, List.set_cons_succ, List.append_toArray, List.nil_append, List.cons_append]
 clear hu
 go_wp2_with fail
inductive CaughtPost (rb B : Nat) (p : FlatP) (inp : List Int) (fuel : Nat) (m : Mem) (W : World) : FOut → Ending → World → Prop
 | val {v : PV} {s : FSt} {m' : Mem} {W' : World} {g : Value} (hk : Evo rb m m' W W') (hg : Good rb B p inp fuel s m' W') (hv : RepV rb m' W' v g) : CaughtPost rb B p inp fuel m W (.val v, s) (.returned (.tuple #[g, .bool false])) W'
 | raised {v : PV} {s : FSt} {m' : Mem} {W' : World} {g : Value} (hk : Evo rb m m' W W') (hg : Good rb B p inp fuel s m' W') (hv : RepV rb m' W' v g) : CaughtPost rb B p inp fuel m W (.raised v, s) (.returned (.tuple #[g, .bool true])) W'
 | stuck {s : FSt} {m' : Mem} {W' : World} {ch : List PanicEntry} (hk : Evo rb m m' W W') (hg : Good rb B p inp fuel s m' W') (hth : Thrown 90 (.agg #[.int .i64 4]) ch) : CaughtPost rb B p inp fuel m W (.stuck, s) (.panicked ch) W'
 | cut {s : FSt} {m' : Mem} {W' : World} {ch : List PanicEntry} (hk : Evo rb m m' W W') (hg : Good rb B p inp fuel s m' W') (hth : Thrown 90 (.agg #[.int .i64 3]) ch) : CaughtPost rb B p inp fuel m W (.cut, s) (.panicked ch) W'
theorem settle_thrown {T : TypeId} {x : Value} {older : List PanicEntry} (h : ∀ p ∈ older, p.goexit = false) : settle (.panicking ({ v := .iface T x, recovered := true } :: older)) = .returning := by
 have : older.dropWhile (!·.goexit) = [] := by
  clear x
  induction older with
  | nil => rfl
  | cons a l ih => rw [List.dropWhile_cons_of_pos (by simp [h a (by simp)])]; exact ih (fun p hp => h p (by simp [hp]))
 simp [settle, this]
theorem Thrown.again {T : TypeId} {x : Value} {older : List PanicEntry} (h : ∀ p ∈ older, p.goexit = false) : Thrown T x ({ v := .iface T x, recovered := false } :: { v := .iface T x, recovered := true } :: older) :=
 ⟨_, rfl, fun p hp => by rcases List.mem_cons.1 hp with rfl | hp; rfl; exact h p hp⟩
theorem caught_any {rb B : Nat} {p : FlatP} {inp : List Int} {fuel n : Nat} (hok : BodyOk rb B p inp fuel n) (hwf : ∀ g ∈ p.funs, WfA p.funs.length g.body) (f : PV) (s : FSt) (m : Mem) (W : World) (gf : Value) (hf : RepV rb m W f gf) (hg : Good rb B p inp fuel s m W) (hn : s.left ≤ n) :
 Calls Tryz.prog 96 #[.pointer (some ⟨rb, 0, none⟩), gf] W (CaughtPost rb B p inp fuel m W (callF p.funs (evF p.funs inp n) f (.int 0) s)) := by
 obtain ⟨Tf, xf, rfl⟩ := hf.shape
 have hk1 : Evo rb m m W (W.alloc (.cells #[.nilIface] 92)) := Evo.alloc _ _ _ _
 have hg1 := hg.below ((Below.refl _ _).alloc (Nat.le_refl _) (.cells #[.nilIface] 92))
 have hk2 : Evo rb m m (W.alloc (.cells #[.nilIface] 92)) ((W.alloc (.cells #[.nilIface] 92)).alloc (.cells #[.bool false] 4)) := Evo.alloc _ _ _ _
 have hg2 := hg1.below ((Below.refl _ _).alloc (Nat.le_refl _) (.cells #[.bool false] 4))
 have hf2 := (hf.evo hk1).evo hk2
 have a1 := (at_new (fun k hk => hg.mutLt hk) #[.nilIface] 92).evo hk2
 have a2 : At rb m ((W.alloc (.cells #[.nilIface] 92)).alloc (.cells #[.bool false] 4)) (W.heap.size + 1) (.cells #[.bool false] 4) := by
  have := at_new (fun k hk => hg1.mutLt hk) #[.bool false] 4
  simpa using this
 have hBs := hg.Bs
 have HC := Lib.hid ((call_any hok hwf f (.int 0) hf2 (.int 0) hg2 hn).mono fun e V h => (show EvPost rb B p inp fuel m ((W.alloc (.cells #[.nilIface] 92)).alloc (.cells #[.bool false] 4)) (callF p.funs (evF p.funs inp n) f (.int 0) s) e V from h))
 generalize callF p.funs (evF p.funs inp n) f (.int 0) s = o at HC ⊢
 have hW2 : Evo rb m m W ((W.alloc (.cells #[.nilIface] 92)).alloc (.cells #[.bool false] 4)) := hk1.trans hk2
 clear hok hwf hk1 hk2 hg1 hg2 hf hf2
 go_enter_defers Tryz.func96, Tryz.ntmps96
 go_wp2_with fail
 refine HC.out.mono ?_
 have hne : W.heap.size ≠ W.heap.size + 1 := by omega
 have hne' : W.heap.size + 1 ≠ W.heap.size := by omega
 intro e V h
 cases h with
 | @val v s' m' _ g hk hg' hv =>
  have b1 := a1.evo hk
  have b2 := a2.evo hk
  have O1 : Odd rb B m' V W.heap.size 92 .nilIface := ⟨b1.1, .inl rfl, by intros; simp, b1.2, hBs⟩
  have O2 : Odd rb B m' V (W.heap.size + 1) 4 (.bool false) := ⟨b2.1, .inr rfl, by intros; simp, b2.2, by omega⟩
  have c1 := at_cell0 b1 (i := 0) rfl
  have c2 := at_cell0 b2 (i := 0) rfl
  have d1 := at_frozen b1 0
  have d2 := at_frozen b2 0
  obtain ⟨Tg, xg, rfl⟩ := hv.shape
  have HP : CaughtPost rb B p inp fuel m W (.val v, s') (.returned (.tuple #[.iface Tg xg, .bool false])) ((V.setCell ⟨W.heap.size, 0, none⟩ (.iface Tg xg)).setCell ⟨W.heap.size + 1, 0, none⟩ (.bool false)) :=
   .val (((hW2.trans hk).setNew (Nat.le_refl _) _ _).setNew (by omega) _ _) ((O1.other _ O2 hne').good _ (O1.good _ hg')) ((O1.other _ O2 hne').rep _ (O1.rep _ hv))
  have HP := Lib.hid HP
  simp only [List.getElem_toArray, List.getElem_cons_zero] at c1 c2
  clear b1 b2 O1 O2 hv hg' hk a1 a2 hW2 hg HC
  go_wp2_with fail
  refine leaves_cons (f := 99) (args := #[.pointer (some ⟨W.heap.size, 0, none⟩), .pointer (some ⟨W.heap.size + 1, 0, none⟩)]) (by simp) (by simp [go_sem]) ?_
  refine (caught1_idle _ _ _).mono ?_
  rintro e u' w'' ⟨rfl, rfl, rfl⟩
  simp [Leaves, settle, results, Tryz.results96, go_sem, *]
  try exact HP.out
 | @raised v s' m' _ g ch hk hg' hv hkey hth =>
  obtain ⟨older, rfl, hold⟩ := hth
  have b1 := a1.evo hk
  have b2 := a2.evo hk
  obtain ⟨Tg, xg, rfl⟩ := hv.shape
  have hal : Evo rb m' m' V (V.alloc (.cells #[.iface Tg xg] 94)) := Evo.alloc _ _ _ _
  have hga := hg'.below ((Below.refl _ _).alloc (Nat.le_refl _) (.cells #[.iface Tg xg] 94))
  have b1' := b1.evo hal
  have b2' := b2.evo hal
  have O1 : Odd rb B m' (V.alloc (.cells #[.iface Tg xg] 94)) W.heap.size 92 .nilIface := ⟨b1'.1, .inl rfl, by intros; simp, b1'.2, hBs⟩
  have O2 : Odd rb B m' (V.alloc (.cells #[.iface Tg xg] 94)) (W.heap.size + 1) 4 (.bool false) := ⟨b2'.1, .inr rfl, by intros; simp, b2'.2, by omega⟩
  have c1 := at_cell0 b1 (i := 0) rfl
  have c2 := at_cell0 b2 (i := 0) rfl
  have d1 := at_frozen b1 0
  have d2 := at_frozen b2 0
  have HP : CaughtPost rb B p inp fuel m W (.raised v, s') (.returned (.tuple #[.iface Tg xg, .bool true])) (((V.alloc (.cells #[.iface Tg xg] 94)).setCell ⟨W.heap.size, 0, none⟩ (.iface Tg xg)).setCell ⟨W.heap.size + 1, 0, none⟩ (.bool true)) :=
   .raised ((((hW2.trans hk).trans hal).setNew (Nat.le_refl _) _ _).setNew (by omega) _ _) ((O1.other _ O2 hne').good _ (O1.good _ hga)) ((O1.other _ O2 hne').rep _ (O1.rep _ (hv.evo hal)))
  have HP := Lib.hid HP
  have l1 := World.block_lt_of_cell? _ _ c1
  have l2 := World.block_lt_of_cell? _ _ c2
  simp only [List.getElem_toArray, List.getElem_cons_zero] at c1 c2
  refine leaves_cons (f := 99) (args := #[.pointer (some ⟨W.heap.size, 0, none⟩), .pointer (some ⟨W.heap.size + 1, 0, none⟩)]) (by simp) (by simp [go_sem]) ?_
  refine (caught1_raised _ _ _ _ _ _ c1 c2 d1 d2 hne).mono ?_
  rintro e u' w'' ⟨rfl, rfl, rfl⟩
  show Leaves _ _ _ _ [] (settle _) _
  rw [settle_thrown hold]
  have k1 : (((V.alloc (.cells #[.iface Tg xg] 94)).setCell ⟨W.heap.size, 0, none⟩ (.iface Tg xg)).setCell ⟨W.heap.size + 1, 0, none⟩ (.bool true)).cell? ⟨W.heap.size, 0, none⟩ = some (.iface Tg xg) := by
   rw [World.cell?_setCell_far _ _ _ _ (by simp), World.cell?_setCell_same' _ _ _ (by rw [World.cell?_alloc_lt _ _ _ l1, c1]; rfl)]
  have k2 : (((V.alloc (.cells #[.iface Tg xg] 94)).setCell ⟨W.heap.size, 0, none⟩ (.iface Tg xg)).setCell ⟨W.heap.size + 1, 0, none⟩ (.bool true)).cell? ⟨W.heap.size + 1, 0, none⟩ = some (.bool true) := by
   rw [World.cell?_setCell_same' _ _ _ (by rw [World.cell?_setCell_far _ _ _ _ (by simp), World.cell?_alloc_lt _ _ _ l2, c2]; rfl)]
  simp [Leaves, results, Tryz.results96, go_sem, k1, k2]
  exact HP.out
 | @stuck s' m' _ ch hk hg' hth =>
  obtain ⟨older, rfl, hold⟩ := hth
  refine leaves_cons (f := 99) (args := #[.pointer (some ⟨W.heap.size, 0, none⟩), .pointer (some ⟨W.heap.size + 1, 0, none⟩)]) (by simp) (by simp [go_sem]) ?_
  refine (caught1_stop _ _ _ _ _).mono ?_
  rintro e u' w'' ⟨rfl, rfl, rfl⟩
  exact CaughtPost.stuck (hW2.trans hk) hg' (Thrown.again hold)
 | @cut s' m' _ ch hk hg' hth =>
  obtain ⟨older, rfl, hold⟩ := hth
  refine leaves_cons (f := 99) (args := #[.pointer (some ⟨W.heap.size, 0, none⟩), .pointer (some ⟨W.heap.size + 1, 0, none⟩)]) (by simp) (by simp [go_sem]) ?_
  refine (caught1_stop _ _ _ _ _).mono ?_
  rintro e u' w'' ⟨rfl, rfl, rfl⟩
  exact CaughtPost.cut (hW2.trans hk) hg' (Thrown.again hold)
end Go.Proofs.YtnobggabjpcbfaaGreat
namespace Go.Proofs.YtnobggabjpcbfaaGreat
open Go.RowKit
section
variable {rb B : Nat} {p : FlatP} {inp : List Int} {fuel n : Nat} {s : FSt} {m : Mem} {W : World}
theorem prim_ref (hg : Good rb B p inp fuel s m W) {a : PV} {T : TypeId} {x : Value} (ha : RepV rb m W a (.iface T x)) {g cap : Nat} (c0 : W.cell? ⟨g, 0, none⟩ = some (.iface T x)) :
 Calls Tryz.prog 85 #[.pointer (some ⟨rb, 0, none⟩), .int .i64 10, .slice (some ⟨g, 0, none⟩) 1 cap] W (EvPost rb B p inp fuel m W (.val (.ref s.cells.length), { s with cells := s.cells ++ [a] })) := by
 obtain ⟨h1, h2, h3⟩ := hg.addCell ha
 have HP := Lib.hid (EvPost.val h2 h1 h3)
 clear h1 h2 h3 hg ha
 go_enter Tryz.func85, Tryz.ntmps85
 go_wp2_with fail
 go_ret
 exact HP.out
theorem prim_get_ref (hg : Good rb B p inp fuel s m W) {i b : Nat} (hb : m.ca[i]? = some b) {g cap : Nat} (c0 : W.cell? ⟨g, 0, none⟩ = some (.iface 156 (.pointer (some ⟨b, 0, none⟩)))) :
 Calls Tryz.prog 85 #[.pointer (some ⟨rb, 0, none⟩), .int .i64 11, .slice (some ⟨g, 0, none⟩) 1 cap] W (EvPost rb B p inp fuel m W (.val (s.cells[i]?.getD default), s)) := by
 have hi : i < s.cells.length := by rw [← hg.calen]; exact (List.getElem?_eq_some_iff.1 hb).1
 obtain ⟨b', gv, h1, h2, h3⟩ := hg.cells i hi
 rw [hb] at h1; cases h1
 obtain ⟨Tv, xv, rfl⟩ := h3.shape
 have cb : W.cell? ⟨b, 0, none⟩ = some (.iface Tv xv) := by simp [World.cell?, h2]
 have hv : s.cells[i]?.getD default = s.cells[i] := by simp [hi]
 rw [hv]
 have HP := Lib.hid (EvPost.val (Evo.refl _ _ _) hg h3)
 clear hv h2 h3 hg hb
 go_enter Tryz.func85, Tryz.ntmps85
 go_wp2_with fail
 go_ret
 exact HP.out
theorem prim_cell_other {p : Int} {k : Nat} (hp : (p = 11 ∧ k = 1) ∨ (p = 12 ∧ k = 2)) (T : TypeId) (hT : T = 115 ∨ T = 116 ∨ T = 145) (x : Value) {g cap : Nat} (c0 : W.cell? ⟨g, 0, none⟩ = some (.iface T x)) (r : Value) :
 Calls Tryz.prog 85 #[r, .int .i64 p, .slice (some ⟨g, 0, none⟩) k cap] W fun e w' => e = .panicked (stopV 4) ∧ W = w' := by
 rcases hp with ⟨rfl, rfl⟩ | ⟨rfl, rfl⟩
 all_goals
  rcases hT with rfl | rfl | rfl
  all_goals
   go_enter Tryz.func85, Tryz.ntmps85
   go_wp2_with (go_at_call 60; refine (stuck_any _).mono ?_; rintro e w' ⟨rfl, rfl⟩)
   exact ⟨rfl, rfl, rfl⟩
theorem prim_set_ref (hg : Good rb B p inp fuel s m W) {i b : Nat} (hb : m.ca[i]? = some b) {a : PV} {T : TypeId} {x : Value} (ha : RepV rb m W a (.iface T x)) {g cap : Nat} (c0 : W.cell? ⟨g, 0, none⟩ = some (.iface 156 (.pointer (some ⟨b, 0, none⟩)))) (c1 : W.cell? ⟨g, 1, none⟩ = some (.iface T x)) :
 Calls Tryz.prog 85 #[.pointer (some ⟨rb, 0, none⟩), .int .i64 12, .slice (some ⟨g, 0, none⟩) 2 cap] W (EvPost rb B p inp fuel m W (.val (.int 0), { s with cells := s.cells.set i a })) := by
 have hi : i < s.cells.length := by rw [← hg.calen]; exact (List.getElem?_eq_some_iff.1 hb).1
 obtain ⟨b', gv, h1, h2, h3⟩ := hg.cells i hi
 rw [hb] at h1; cases h1
 have cb : W.cell? ⟨b, 0, none⟩ = some gv := by simp [World.cell?, h2]
 have fb : W.frozen? ⟨b, 0, none⟩ = false := by simp [World.frozen?, h2]
 obtain ⟨q1, q2⟩ := hg.setRef hb ha
 have HP := Lib.hid (EvPost.val q2 q1 (.int 0))
 clear h2 h3 hg hb q1 q2 ha
 go_enter Tryz.func85, Tryz.ntmps85
 go_wp2_with fail
 go_ret
 exact HP.out
theorem prim_read_none (hg : Good rb B p inp fuel s m W) (hp : inp.length ≤ s.asked) (v : Value) :
 Calls Tryz.prog 85 #[.pointer (some ⟨rb, 0, none⟩), .int .i64 14, v] W (EvPost rb B p inp fuel m W (.raised (.int 1), { s with asked := s.asked + 1 })) := by
 have hg' := hg.past hp
 obtain ⟨f0, f1, f2, f3, Ai, ci, hr, hfl, hi, hci⟩ := hg.run
 have h1 : inp.drop s.asked = [] := List.drop_eq_nil_iff.2 hp
 have cb : W.cell? ⟨rb, 4, none⟩ = some (.slice Ai 0 ci) := by simp [World.cell?, hr, h1]
 have HP := Lib.hid (EvPost.raised (Evo.refl rb m W) hg' (.int 1) ⟨1, rfl⟩ (thrown_one _ _))
 clear hg hg' hr hfl hi hci h1
 go_enter Tryz.func85, Tryz.ntmps85
 go_wp2_with fail
 exact ⟨rfl, HP.out⟩
theorem prim_read_some (hg : Good rb B p inp fuel s m W) (hp : s.asked < inp.length) (v : Value) :
 Calls Tryz.prog 85 #[.pointer (some ⟨rb, 0, none⟩), .int .i64 14, v] W (EvPost rb B p inp fuel m W (.val (.int (wrap31 (nth inp s.asked))), { s with asked := s.asked + 1 })) := by
 obtain ⟨f0, f1, f2, f3, Ai, ci, hr, hfl, hi, hci⟩ := hg.run
 have hdrop : inp.drop s.asked = nth inp s.asked :: inp.drop (s.asked + 1) := by
  rw [nth_eq _ hp]; exact List.drop_eq_getElem_cons hp
 have hfb : W.frozen? ⟨rb, 4, none⟩ = false := by simp [World.frozen?, hr]
 have hlen : (inp.drop s.asked).length = (inp.drop (s.asked + 1)).length + 1 := by rw [hdrop]; rfl
 obtain ⟨b, o, rfl, hlt, hc⟩ := hi.at_ (by omega)
 have cb : W.cell? ⟨rb, 4, none⟩ = some (.slice (some ⟨b, o, none⟩) ((inp.drop (s.asked + 1)).length + 1) ci) := by simp [World.cell?, hr, hlen]
 have c0 : W.cell? ⟨b, o, none⟩ = some (.int .i64 (nth inp s.asked)) := by
  have := hc 0 (by omega)
  rw [hdrop] at this
  simpa [nth] using this
 have h64 := hi.1
 have hci' : (inp.drop (s.asked + 1)).length + 1 ≤ ci := by omega
 have hL : (inp.drop (s.asked + 1)).length * 8 ≤ 140737488351232 := by omega
 have hc' : ∀ j, j < (inp.drop (s.asked + 1)).length → W.cell? ⟨b, o + 1 + j, none⟩ = some (.int .i64 (nth (inp.drop (s.asked + 1)) j)) := fun j hj => by
  have := hc (j + 1) (by omega)
  rw [hdrop] at this
  rw [show o + 1 + j = o + (j + 1) by omega, this]
  simp [nth]
 have HP := Lib.hid (fun (A' : Option Addr) (c' : Nat) (hA : 0 < (inp.drop (s.asked + 1)).length → A' = some ⟨b, o + 1, none⟩) (hcc : (inp.drop (s.asked + 1)).length ≤ c') =>
  (show EvPost rb B p inp fuel m W (.val (.int (wrap31 (nth inp s.asked))), { s with asked := s.asked + 1 }) (.returned (.iface 115 (.int .i64 (wrap31 (nth inp s.asked))))) (W.setCell ⟨rb, 4, none⟩ (.slice A' (inp.drop (s.asked + 1)).length c')) from by
   obtain ⟨q1, q2⟩ := hg.read (Ai := A') (ci := c') (⟨hL, by
    by_cases h0 : inp.drop (s.asked + 1) = []
    · exact .inl h0
    · have := List.length_pos_iff.2 h0
      exact .inr ⟨b, o + 1, hA this, hlt, hc'⟩⟩) hcc
   exact .val q2 q1 (.int _)))
 generalize (inp.drop (s.asked + 1)).length = L at *
 generalize EvPost rb B p inp fuel m W (.val (.int (wrap31 (nth inp s.asked))), { s with asked := s.asked + 1 }) = PP at *
 generalize nth inp s.asked = z at *
 have hL0 : ((L : Int) + 1 == 0) = false := by simp; omega
 have hL1 : (1 : Int) ≤ (L : Int) + 1 := by omega
 have hL2 : (L : Int) + 1 ≤ (ci : Int) := by omega
 have hL3 : (0 : Int) < (L : Int) + 1 := by omega
 clear hg hp hr hfl hi hc hc' hdrop hlen hci h64
 go_enter Tryz.func85, Tryz.ntmps85
 go_wp2_with (go_at_call 95; refine (wrap_any _ _).mono ?_; rintro e w' ⟨rfl, rfl⟩)
 all_goals exact HP.out _ _ (by intro h; first | rfl | omega) (by omega)
theorem prim_raise (hg : Good rb B p inp fuel s m W) {a : PV} {T : TypeId} {x : Value} (ha : RepV rb m W a (.iface T x)) {g cap : Nat} (c0 : W.cell? ⟨g, 0, none⟩ = some (.iface T x)) :
 Calls Tryz.prog 85 #[.pointer (some ⟨rb, 0, none⟩), .int .i64 15, .slice (some ⟨g, 0, none⟩) 1 cap] W (EvPost rb B p inp fuel m W (match keyOf a with | some _ => (.raised a, s) | none => (.stuck, s))) := by
 cases hk : keyOf a with
 | some k =>
  have HK := Lib.hid ((key_any ha).mono (R' := fun e w' => e = .returned (.int .i64 k) ∧ W = w') (by
   rintro e w' (⟨n, hn, rfl, rfl⟩ | ⟨hn, rfl, rfl⟩)
   · rw [hk] at hn; cases hn; exact ⟨rfl, rfl⟩
   · rw [hk] at hn; cases hn))
  have HP := Lib.hid (EvPost.raised (Evo.refl rb m W) hg ha ⟨k, hk⟩ (thrown_one _ _))
  clear hg ha hk
  go_enter Tryz.func85, Tryz.ntmps85
  go_wp2_with (go_at_call 39; refine HK.out.mono ?_; rintro e w' ⟨rfl, rfl⟩)
  exact ⟨rfl, HP.out⟩
 | none =>
  have HK := Lib.hid ((key_any ha).mono (R' := fun e w' => e = .panicked (stopV 4) ∧ W = w') (by
   rintro e w' (⟨n, hn, rfl, rfl⟩ | ⟨hn, rfl, rfl⟩)
   · rw [hk] at hn; cases hn
   · exact ⟨rfl, rfl⟩))
  have HP := Lib.hid (EvPost.stuck (Evo.refl rb m W) hg (thrown_one _ _))
  clear hg ha hk
  go_enter Tryz.func85, Tryz.ntmps85
  go_wp2_with (go_at_call 39; refine HK.out.mono ?_; rintro e w' ⟨rfl, rfl⟩)
  exact ⟨rfl, HP.out⟩
end
end Go.Proofs.YtnobggabjpcbfaaGreat
