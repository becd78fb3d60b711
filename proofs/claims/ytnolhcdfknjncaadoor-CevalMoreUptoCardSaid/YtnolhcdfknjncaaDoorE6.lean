/-
  The program's evaluator: what is raised is caught.
-/
import Derived.Test.YtnolhcdfknjncaaDoorE5
import Derived.Recover
set_option linter.unusedVariables false
set_option linter.unusedSimpArgs false
namespace Go.Proofs.YtnolhcdfknjncaaDoor
open Go.RowKit

/-! ### a store into a variable that no value of the run lies in -/
structure Odd (rb B : Nat) (m : Mem) (W : World) (b : Nat) (T : TypeId) (x : Value) : Prop where
  lies : W.heap[b]? = some (.cells #[x] T (0, 0))
  ty : T = 54 ∨ T = 4
  odd : ∀ U y, x ≠ .iface U y
  still : ¬ m.apart rb b
  lo : B ≤ b
section
variable {rb B : Nat} {inp : List Int} {fuel : Nat} {s : St} {m : Mem} {W : World} {b : Nat} {T : TypeId} {x : Value}
theorem Odd.heap (h : Odd rb B m W b T x) (v : Value) {k : Nat} (hk : k ≠ b) : (W.setCell ⟨b, 0, none⟩ v).heap[k]? = W.heap[k]? := Below.heap_setCell W _ _ k hk
theorem Odd.at_ (h : Odd rb B m W b T x) (v : Value) {k : Nat} {cs : Array Value} {U : TypeId} {fr : Nat × Nat} (hU : U ≠ 54 ∧ U ≠ 4) (ha : At rb m W k (.cells cs U fr)) : At rb m (W.setCell ⟨b, 0, none⟩ v) k (.cells cs U fr) := by
  refine ⟨(h.heap v ?_).trans ha.1, ha.2⟩
  rintro rfl
  have := h.lies.symm.trans ha.1
  simp only [Option.some.injEq, Obj.cells.injEq] at this
  rcases h.ty with h1 | h1
  · exact hU.1 (this.2.1.symm.trans h1)
  · exact hU.2 (this.2.1.symm.trans h1)
theorem Odd.rep (h : Odd rb B m W b T x) (v : Value) {p : PV} {g : Value} (hr : RepV rb m W p g) : RepV rb m (W.setCell ⟨b, 0, none⟩ v) p g := by
  induction hr with
  | int n => exact .int n
  | @blk tag kids bb g cap F hb hg hgm hl h8 hc hk ih =>
    refine .blk (h.at_ v (by decide) hb) (by simpa [World.setCell] using hg) hgm hl h8 (fun j hj => ?_) ih
    refine (cell_of_heap (h.heap v ?_) j).trans (hc j hj)
    rintro rfl
    obtain ⟨U, y, hF⟩ := (hk 0 (by omega)).shape
    have h0 := hc 0 (by omega)
    simp [World.cell?, h.lies, hF] at h0
    exact h.odd _ _ h0
  | fn h => exact .fn h
  | ref h => exact .ref h
theorem Odd.env (h : Odd rb B m W b T x) (v : Value) {e : PEnv} {g : Value} (hr : EnvIn rb m W e g) : EnvIn rb m (W.setCell ⟨b, 0, none⟩ v) e g := by
  induction hr with
  | nil => exact .nil
  | cons hb hv _ ih => exact .cons (h.at_ v (by decide) hb) (h.rep v hv) ih
theorem Odd.good (h : Odd rb B m W b T x) (v : Value) (hg : Good rb B inp fuel s m W) : Good rb B inp fuel s m (W.setCell ⟨b, 0, none⟩ v) := by
  have hst : Stay B W (W.setCell ⟨b, 0, none⟩ v) := fun c o u hc hu => (cell_of_heap (h.heap v (by have := h.lo; omega)) o).trans hu
  obtain ⟨Ai, ci, hr, hi, hci⟩ := hg.run
  refine ⟨by simpa [World.setCell] using hg.Bs, hg.rbB, hg.left, hg.fuelB, hg.bnd, ⟨Ai, ci, (h.heap v (fun e => h.still (.inl (.inl e.symm)))).trans hr, hi.stay hst, hci⟩, ?_, hg.falen, ?_, hg.calen, ?_, hg.nodup, hg.rbca, hg.rbo, hg.oca, hg.caB, fun k hk => ⟨(hg.priv k hk).1, by simpa [World.setCell] using (hg.priv k hk).2.1, (hg.priv k hk).2.2⟩⟩
  · refine hg.out.kept (row := some b) ⟨rfl, rfl, rfl, by simp [World.setCell], fun i hi hne => h.heap v (fun e => hne (by rw [e]))⟩ ?_
    cases ho : m.vo.ownBlock with
    | none => exact .inl rfl
    | some k => exact .inr fun e => h.still (.inl (.inr (.inl (ho.trans (by simpa using e)))))
  · intro i hi'
    obtain ⟨b', c0, c1, c2, c3, kp, h1, h2, h3, h4, h5⟩ := hg.fns i hi'
    exact ⟨b', c0, c1, c2, c3, kp, h1, h.at_ v (by decide) h2, h3.stay hst, h4, h.env v h5⟩
  · intro i hi'
    obtain ⟨b', gv, h1, h2, h3⟩ := hg.cells i hi'
    refine ⟨b', gv, h1, (h.heap v ?_).trans h2, h.rep v h3⟩
    rintro rfl
    exact h.still (.inl (.inr (.inr (List.mem_of_getElem? h1))))
theorem Odd.other (h : Odd rb B m W b T x) (v : Value) {c : Nat} {U : TypeId} {y : Value} (hc : Odd rb B m W c U y) (hne : c ≠ b) : Odd rb B m (W.setCell ⟨b, 0, none⟩ v) c U y :=
  ⟨(h.heap v hne).trans hc.lies, hc.ty, hc.odd, hc.still, hc.lo⟩
end
/-- a store behind what stood at first -/
theorem Evo.setNew {rb : Nat} {m m' : Mem} {W W' : World} (h : Evo rb m m' W W') {b : Nat} (hb : W.heap.size ≤ b) (o : Nat) (v : Value) : Evo rb m m' W (W'.setCell ⟨b, o, none⟩ v) :=
  ⟨h.os, h.tape, h.output, by simpa [World.setCell] using h.size, fun k hk hm => (Below.heap_setCell W' _ _ k (by show k ≠ b; omega)).trans (h.same k hk hm), h.fresh, h.fa, h.ca, h.priv⟩

/-! ### the deferred closure -/
theorem caught1_idle (a b : Addr) (w : World) :
    CallsD Tryd.prog 86 #[.pointer (some a), .pointer (some b)] .returning w fun e u' w' => e = .returned (.tuple #[]) ∧ u' = .returning ∧ w' = w := by
  refine callsD_of_wpS Tryd.func86 rfl fun c₀ cs hu => ?_
  apply wpS_seq
  apply wpS_region
  simp [wpOpsS, go_sem, recoverD, hu, Tryd.ntmps86, Exit.thenS]
  refine wpS_of_wp ?_
  go_wp2_with fail
  cases c₀
  simp_all [bodyPostS, results, Tryd.results86]

theorem caught1_raised (ab bb : Nat) (T : TypeId) (y : Value) (older : List PanicEntry) (w : World) (ha : w.cell? ⟨ab, 0, none⟩ = some .nilIface) (hb : w.cell? ⟨bb, 0, none⟩ = some (.bool false)) (fa : w.frozen? ⟨ab, 0, none⟩ = false) (fb : w.frozen? ⟨bb, 0, none⟩ = false) (hab : ab ≠ bb) :
    CallsD Tryd.prog 86 #[.pointer (some ⟨ab, 0, none⟩), .pointer (some ⟨bb, 0, none⟩)] (.panicking ({ v := .iface 81 (.agg #[.iface T y]), recovered := false } :: older)) w
      fun e u' w' => e = .returned (.tuple #[]) ∧ u' = .panicking ({ v := .iface 81 (.agg #[.iface T y]), recovered := true } :: older) ∧ w' = ((w.alloc (.cells #[.iface T y] 81)).setCell ⟨ab, 0, none⟩ (.iface T y)).setCell ⟨bb, 0, none⟩ (.bool true) := by
  have hal := World.block_lt_of_cell? _ _ ha
  have hbl := World.block_lt_of_cell? _ _ hb
  have hn := World.new_ne _ _ ha
  have hn' := World.new_ne _ _ hb
  refine callsD_of_wpS Tryd.func86 rfl fun c₀ cs hu => ?_
  apply wpS_seq
  apply wpS_region
  simp [wpOpsS, go_sem, recoverD, hu, Tryd.ntmps86, Exit.thenS]
  refine wpS_of_wp (Code.wp_mono (Q := fun e a w' => e = .normal ∧ a.defers = [] ∧ w' = ((w.alloc (.cells #[.iface T y] 81)).setCell ⟨ab, 0, none⟩ (.iface T y)).setCell ⟨bb, 0, none⟩ (.bool true)) ?_ ?_)
  · rintro e a w' ⟨rfl, h1, rfl⟩
    cases c₀
    simp_all [bodyPostS, results, Tryd.results86]
  simp only [Array.replicate_succ, Array.replicate_zero, List.push_toArray, List.setIfInBounds_toArray, List.set_cons_zero, List.set_cons_succ, List.append_toArray, List.nil_append, List.cons_append]
  clear hu
  go_wp2_with fail

theorem caught1_stop (a b : Addr) (x : Value) (older : List PanicEntry) (w : World) :
    CallsD Tryd.prog 86 #[.pointer (some a), .pointer (some b)] (.panicking ({ v := .iface 79 x, recovered := false } :: older)) w
      fun e u' w' => e = .panicked [{ v := .iface 79 x, recovered := false }] ∧ u' = .panicking ({ v := .iface 79 x, recovered := true } :: older) ∧ w' = w := by
  refine callsD_of_wpS Tryd.func86 rfl fun c₀ cs hu => ?_
  apply wpS_seq
  apply wpS_region
  simp [wpOpsS, go_sem, recoverD, hu, Tryd.ntmps86, Exit.thenS]
  refine wpS_of_wp (Code.wp_mono (Q := fun e a w' => e = .panic [{ v := .iface 79 x, recovered := false }] ∧ a.defers = [] ∧ w' = w) ?_ ?_)
  · rintro e a w' ⟨rfl, h1, rfl⟩
    cases c₀
    simp_all [bodyPostS, results, Tryd.results86]
  simp only [Array.replicate_succ, Array.replicate_zero, List.push_toArray, List.setIfInBounds_toArray, List.set_cons_zero, List.set_cons_succ, List.append_toArray, List.nil_append, List.cons_append]
  clear hu
  go_wp2_with fail

/-- how a call ends that is watched -/
inductive CaughtPost (rb B : Nat) (inp : List Int) (fuel : Nat) (m : Mem) (W : World) : Out → Ending → World → Prop
  | val {v : PV} {s : St} {m' : Mem} {W' : World} {g : Value} (hk : Evo rb m m' W W') (hg : Good rb B inp fuel s m' W') (hv : RepV rb m' W' v g) : CaughtPost rb B inp fuel m W (.val v, s) (.returned (.tuple #[g, .bool false])) W'
  | raised {v : PV} {s : St} {m' : Mem} {W' : World} {g : Value} (hk : Evo rb m m' W W') (hg : Good rb B inp fuel s m' W') (hv : RepV rb m' W' v g) : CaughtPost rb B inp fuel m W (.raised v, s) (.returned (.tuple #[g, .bool true])) W'
  | stuck {s : St} {m' : Mem} {W' : World} {ch : List PanicEntry} (hk : Evo rb m m' W W') (hg : Good rb B inp fuel s m' W') (hth : Thrown 79 (.agg #[.int .i64 4]) ch) : CaughtPost rb B inp fuel m W (.stuck, s) (.panicked ch) W'
  | cut {s : St} {m' : Mem} {W' : World} {ch : List PanicEntry} (hk : Evo rb m m' W W') (hg : Good rb B inp fuel s m' W') (hth : Thrown 79 (.agg #[.int .i64 3]) ch) : CaughtPost rb B inp fuel m W (.cut, s) (.panicked ch) W'

theorem settle_thrown {T : TypeId} {x : Value} {older : List PanicEntry} (h : ∀ p ∈ older, p.goexit = false) : settle (.panicking ({ v := .iface T x, recovered := true } :: older)) = .returning := by
  have : older.dropWhile (!·.goexit) = [] := by
    clear x
    induction older with
    | nil => rfl
    | cons a l ih => rw [List.dropWhile_cons_of_pos (by simp [h a (by simp)])]; exact ih (fun p hp => h p (by simp [hp]))
  simp [settle, this]
theorem Thrown.again {T : TypeId} {x : Value} {older : List PanicEntry} (h : ∀ p ∈ older, p.goexit = false) : Thrown T x ({ v := .iface T x, recovered := false } :: { v := .iface T x, recovered := true } :: older) :=
  ⟨_, rfl, fun p hp => by rcases List.mem_cons.1 hp with rfl | hp; rfl; exact h p hp⟩
theorem at_frozen {rb : Nat} {m : Mem} {W : World} {b : Nat} {cs : Array Value} {t : TypeId} (h : At rb m W b (.cells cs t (0, 0))) (o : Nat) : W.frozen? ⟨b, o, none⟩ = false := by
  simp [World.frozen?, h.1]

set_option maxRecDepth 100000 in
set_option maxHeartbeats 2000000 in
theorem caught_any {rb B : Nat} {inp : List Int} {fuel n : Nat} (hok : TermOk rb B inp fuel n) (f : PV) (s : St) (m : Mem) (W : World) (gf : Value) (hf : RepV rb m W f gf) (hg : Good rb B inp fuel s m W) (hn : s.left < n) :
    Calls Tryd.prog 71 #[.pointer (some ⟨rb, 0, none⟩), gf] W (CaughtPost rb B inp fuel m W (callP (ev inp n) f (.int 0) s)) := by
  obtain ⟨Tf, xf, rfl⟩ := hf.shape
  have hk1 : Evo rb m m W (W.alloc (.cells #[.nilIface] 54)) := Evo.alloc _ _ _ _
  have hg1 := hg.below ((Below.refl _ _).alloc (Nat.le_refl _) (.cells #[.nilIface] 54))
  have hk2 : Evo rb m m (W.alloc (.cells #[.nilIface] 54)) ((W.alloc (.cells #[.nilIface] 54)).alloc (.cells #[.bool false] 4)) := Evo.alloc _ _ _ _
  have hg2 := hg1.below ((Below.refl _ _).alloc (Nat.le_refl _) (.cells #[.bool false] 4))
  have hf2 := (hf.evo hk1).evo hk2
  have a1 := (at_new (fun k hk => hg.apartLt hk) #[.nilIface] 54).evo hk2
  have a2 : At rb m ((W.alloc (.cells #[.nilIface] 54)).alloc (.cells #[.bool false] 4)) (W.heap.size + 1) (.cells #[.bool false] 4) := by
    have := at_new (fun k hk => hg1.apartLt hk) #[.bool false] 4
    simpa using this
  have hBs := hg.Bs
  have HC := Lib.hid ((call_any hok f (.int 0) s m _ _ _ hf2 (.int 0) hg2 hn).mono fun e V h => (show EvPost rb B inp fuel m ((W.alloc (.cells #[.nilIface] 54)).alloc (.cells #[.bool false] 4)) (callP (ev inp n) f (.int 0) s) e V from h))
  generalize callP (ev inp n) f (.int 0) s = o at HC ⊢
  have hW2 : Evo rb m m W ((W.alloc (.cells #[.nilIface] 54)).alloc (.cells #[.bool false] 4)) := hk1.trans hk2
  clear hok hk1 hk2 hg1 hg2 hf hf2
  go_enter_defers Tryd.func71, Tryd.ntmps71
  go_wp2_with fail
  refine HC.out.mono ?_
  have hne : W.heap.size ≠ W.heap.size + 1 := by omega
  have hne' : W.heap.size + 1 ≠ W.heap.size := by omega
  intro e V h
  cases h with
  | @val v s' m' _ g hk hg' hv =>
    have b1 := a1.evo hk
    have b2 := a2.evo hk
    have O1 : Odd rb B m' V W.heap.size 54 .nilIface := ⟨b1.1, .inl rfl, by intros; simp, b1.2, hBs⟩
    have O2 : Odd rb B m' V (W.heap.size + 1) 4 (.bool false) := ⟨b2.1, .inr rfl, by intros; simp, b2.2, by omega⟩
    have c1 := at_cell0 b1 (i := 0) rfl
    have c2 := at_cell0 b2 (i := 0) rfl
    have d1 := at_frozen b1 0
    have d2 := at_frozen b2 0
    obtain ⟨Tg, xg, rfl⟩ := hv.shape
    have HP : CaughtPost rb B inp fuel m W (.val v, s') (.returned (.tuple #[.iface Tg xg, .bool false])) ((V.setCell ⟨W.heap.size, 0, none⟩ (.iface Tg xg)).setCell ⟨W.heap.size + 1, 0, none⟩ (.bool false)) :=
      .val (((hW2.trans hk).setNew (Nat.le_refl _) _ _).setNew (by omega) _ _) ((O1.other _ O2 hne').good _ (O1.good _ hg')) ((O1.other _ O2 hne').rep _ (O1.rep _ hv))
    have HP := Lib.hid HP
    simp only [List.getElem_toArray, List.getElem_cons_zero] at c1 c2
    clear b1 b2 O1 O2 hv hg' hk a1 a2 hW2 hg HC
    go_wp2_with fail
    refine leaves_cons (f := 86) (args := #[.pointer (some ⟨W.heap.size, 0, none⟩), .pointer (some ⟨W.heap.size + 1, 0, none⟩)]) (by simp) (by simp [go_sem]) ?_
    refine (caught1_idle _ _ _).mono ?_
    rintro e u' w'' ⟨rfl, rfl, rfl⟩
    simp [Leaves, settle, results, Tryd.results71, go_sem, *]
    try exact HP.out
  | @raised v s' m' _ g ch hk hg' hv hkey hth =>
    obtain ⟨older, rfl, hold⟩ := hth
    have b1 := a1.evo hk
    have b2 := a2.evo hk
    obtain ⟨Tg, xg, rfl⟩ := hv.shape
    have hal : Evo rb m' m' V (V.alloc (.cells #[.iface Tg xg] 81)) := Evo.alloc _ _ _ _
    have hga := hg'.below ((Below.refl _ _).alloc (Nat.le_refl _) (.cells #[.iface Tg xg] 81))
    have b1' := b1.evo hal
    have b2' := b2.evo hal
    have O1 : Odd rb B m' (V.alloc (.cells #[.iface Tg xg] 81)) W.heap.size 54 .nilIface := ⟨b1'.1, .inl rfl, by intros; simp, b1'.2, hBs⟩
    have O2 : Odd rb B m' (V.alloc (.cells #[.iface Tg xg] 81)) (W.heap.size + 1) 4 (.bool false) := ⟨b2'.1, .inr rfl, by intros; simp, b2'.2, by omega⟩
    have c1 := at_cell0 b1 (i := 0) rfl
    have c2 := at_cell0 b2 (i := 0) rfl
    have d1 := at_frozen b1 0
    have d2 := at_frozen b2 0
    have HP : CaughtPost rb B inp fuel m W (.raised v, s') (.returned (.tuple #[.iface Tg xg, .bool true])) (((V.alloc (.cells #[.iface Tg xg] 81)).setCell ⟨W.heap.size, 0, none⟩ (.iface Tg xg)).setCell ⟨W.heap.size + 1, 0, none⟩ (.bool true)) :=
      .raised ((((hW2.trans hk).trans hal).setNew (Nat.le_refl _) _ _).setNew (by omega) _ _) ((O1.other _ O2 hne').good _ (O1.good _ hga)) ((O1.other _ O2 hne').rep _ (O1.rep _ (hv.evo hal)))
    have HP := Lib.hid HP
    have l1 := World.block_lt_of_cell? _ _ c1
    have l2 := World.block_lt_of_cell? _ _ c2
    simp only [List.getElem_toArray, List.getElem_cons_zero] at c1 c2
    refine leaves_cons (f := 86) (args := #[.pointer (some ⟨W.heap.size, 0, none⟩), .pointer (some ⟨W.heap.size + 1, 0, none⟩)]) (by simp) (by simp [go_sem]) ?_
    refine (caught1_raised _ _ _ _ _ _ c1 c2 d1 d2 hne).mono ?_
    rintro e u' w'' ⟨rfl, rfl, rfl⟩
    show Leaves _ _ _ _ [] (settle _) _
    rw [settle_thrown hold]
    have k1 : (((V.alloc (.cells #[.iface Tg xg] 81)).setCell ⟨W.heap.size, 0, none⟩ (.iface Tg xg)).setCell ⟨W.heap.size + 1, 0, none⟩ (.bool true)).cell? ⟨W.heap.size, 0, none⟩ = some (.iface Tg xg) := by
      rw [World.cell?_setCell_far _ _ _ _ (by simp), World.cell?_setCell_same' _ _ _ (by rw [World.cell?_alloc_lt _ _ _ l1, c1]; rfl)]
    have k2 : (((V.alloc (.cells #[.iface Tg xg] 81)).setCell ⟨W.heap.size, 0, none⟩ (.iface Tg xg)).setCell ⟨W.heap.size + 1, 0, none⟩ (.bool true)).cell? ⟨W.heap.size + 1, 0, none⟩ = some (.bool true) := by
      rw [World.cell?_setCell_same' _ _ _ (by rw [World.cell?_setCell_far _ _ _ _ (by simp), World.cell?_alloc_lt _ _ _ l2, c2]; rfl)]
    simp [Leaves, results, Tryd.results71, go_sem, k1, k2]
    exact HP.out
  | @stuck s' m' _ ch hk hg' hth =>
    obtain ⟨older, rfl, hold⟩ := hth
    refine leaves_cons (f := 86) (args := #[.pointer (some ⟨W.heap.size, 0, none⟩), .pointer (some ⟨W.heap.size + 1, 0, none⟩)]) (by simp) (by simp [go_sem]) ?_
    refine (caught1_stop _ _ _ _ _).mono ?_
    rintro e u' w'' ⟨rfl, rfl, rfl⟩
    exact CaughtPost.stuck (hW2.trans hk) hg' (Thrown.again hold)
  | @cut s' m' _ ch hk hg' hth =>
    obtain ⟨older, rfl, hold⟩ := hth
    refine leaves_cons (f := 86) (args := #[.pointer (some ⟨W.heap.size, 0, none⟩), .pointer (some ⟨W.heap.size + 1, 0, none⟩)]) (by simp) (by simp [go_sem]) ?_
    refine (caught1_stop _ _ _ _ _).mono ?_
    rintro e u' w'' ⟨rfl, rfl, rfl⟩
    exact CaughtPost.cut (hW2.trans hk) hg' (Thrown.again hold)
end Go.Proofs.YtnolhcdfknjncaaDoor
