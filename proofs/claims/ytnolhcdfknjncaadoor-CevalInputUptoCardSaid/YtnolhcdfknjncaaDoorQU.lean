/-
  3 texts of this seat in one: U1 U2 U3.
-/
import Derived.Test.YtnolhcdfknjncaaDoorQF
/-
  The program's evaluator: terms to whatever depth; a run's end.
-/
set_option linter.unusedVariables false
set_option linter.unusedSimpArgs false
namespace Go.Proofs.YtnolhcdfknjncaaDoor
open Go.RowKit

theorem term_ok (rb B : Nat) (inp : List Int) (fuel : Nat) : ∀ n, TermOk rb B inp fuel n
  | 0 => fun t e s m W gt ge _ _ _ _ h => absurd h (Nat.not_lt_zero _)
  | n + 1 => fun t e s m W gt ge hin hwt he hg hn => by
    have hok := term_ok rb B inp fuel n
    unfold ev
    by_cases h0 : s.left = 0
    · rw [if_pos h0]; exact term_cut (n := n) hg hin he h0
    · rw [if_neg h0]
      have hl : 0 < s.left := Nat.pos_of_ne_zero h0
      have hk1 := hwt.node.1
      have hk2 := hwt.node.2.1
      have hk : t.k = 1 ∨ t.k = 2 ∨ t.k = 3 ∨ t.k = 4 ∨ t.k = 5 ∨ t.k = 6 ∨ t.k = 7 ∨ t.k = 8 ∨ t.k = 9 ∨ t.k = 10 := by omega
      rcases hk with hk | hk | hk | hk | hk | hk | hk | hk | hk | hk
      · exact term_var hok hg hin hwt he hn hl hk
      · exact term_int hok hg hin hwt he hn hl hk
      · exact term_fn hok hg hin hwt he hn hl hk
      · exact term_app hok hg hin hwt he hn hl hk
      · exact term_let hok hg hin hwt he hn hl hk
      · exact term_fix hok hg hin hwt he hn hl hk
      · exact term_block hok hg hin hwt he hn hl hk
      · exact term_field hok hg hin hwt he hn hl hk
      · exact term_switch hok hg hin hwt he hn hl hk
      · exact term_prim hok hg hin hwt he hn hl hk

/-! ### the deferred closure -/
theorem whole1_idle (rv rb : Nat) (x : Value) (V : World) (hr : V.cell? ⟨rv, 0, none⟩ = some (.pointer (some ⟨rb, 0, none⟩))) (h2 : V.cell? ⟨rb, 2, none⟩ = some (.int .i64 0)) (f2 : V.frozen? ⟨rb, 2, none⟩ = false) :
    CallsD Tryd.prog 36 #[.pointer (some ⟨rv, 0, none⟩)] .returning V fun e u' w' => e = .returned (.tuple #[]) ∧ u' = .returning ∧ w' = V.setCell ⟨rb, 2, none⟩ (.int .i64 1) := by
  refine callsD_of_wpS Tryd.func36 rfl fun c₀ cs hu => ?_
  apply wpS_seq
  apply wpS_region
  simp [wpOpsS, go_sem, recoverD, hu, Tryd.ntmps36, Exit.thenS]
  refine wpS_of_wp (Code.wp_mono (Q := fun e a w' => e = .normal ∧ a.defers = [] ∧ w' = V.setCell ⟨rb, 2, none⟩ (.int .i64 1)) ?_ ?_)
  · rintro e a w' ⟨rfl, h1, rfl⟩
    cases c₀
    simp_all [bodyPostS, results, Tryd.results36]
  simp only [Array.replicate_succ, Array.replicate_zero, List.push_toArray, List.setIfInBounds_toArray, List.set_cons_zero, List.set_cons_succ, List.append_toArray, List.nil_append, List.cons_append]
  clear hu
  go_wp2_with fail

theorem whole1_stop (rv rb : Nat) (k : Int) (older : List PanicEntry) (V : World) (hr : V.cell? ⟨rv, 0, none⟩ = some (.pointer (some ⟨rb, 0, none⟩))) (h2 : V.cell? ⟨rb, 2, none⟩ = some (.int .i64 0)) (f2 : V.frozen? ⟨rb, 2, none⟩ = false) :
    CallsD Tryd.prog 36 #[.pointer (some ⟨rv, 0, none⟩)] (.panicking ({ v := .iface 79 (.agg #[.int .i64 k]), recovered := false } :: older)) V
      fun e u' w' => e = .returned (.tuple #[]) ∧ u' = .panicking ({ v := .iface 79 (.agg #[.int .i64 k]), recovered := true } :: older) ∧ w' = (V.alloc (.cells #[.int .i64 k] 79)).setCell ⟨rb, 2, none⟩ (.int .i64 k) := by
  have hrl := World.block_lt_of_cell? _ _ hr
  have h2l := World.block_lt_of_cell? _ _ h2
  have hn := World.new_ne _ _ hr
  have hn' := World.new_ne _ _ h2
  refine callsD_of_wpS Tryd.func36 rfl fun c₀ cs hu => ?_
  apply wpS_seq
  apply wpS_region
  simp [wpOpsS, go_sem, recoverD, hu, Tryd.ntmps36, Exit.thenS]
  refine wpS_of_wp (Code.wp_mono (Q := fun e a w' => e = .normal ∧ a.defers = [] ∧ w' = (V.alloc (.cells #[.int .i64 k] 79)).setCell ⟨rb, 2, none⟩ (.int .i64 k)) ?_ ?_)
  · rintro e a w' ⟨rfl, h1, rfl⟩
    cases c₀
    simp_all [bodyPostS, results, Tryd.results36]
  simp only [Array.replicate_succ, Array.replicate_zero, List.push_toArray, List.setIfInBounds_toArray, List.set_cons_zero, List.set_cons_succ, List.append_toArray, List.nil_append, List.cons_append]
  clear hu
  go_wp2_with fail

theorem whole1_raised (rv rb : Nat) (k : Int) (T : TypeId) (y : Value) (older : List PanicEntry) (V : World) (hr : V.cell? ⟨rv, 0, none⟩ = some (.pointer (some ⟨rb, 0, none⟩))) (h2 : V.cell? ⟨rb, 2, none⟩ = some (.int .i64 0)) (f2 : V.frozen? ⟨rb, 2, none⟩ = false) (h3 : V.cell? ⟨rb, 3, none⟩ = some (.int .i64 0)) (f3 : V.frozen? ⟨rb, 3, none⟩ = false) (hne : rv ≠ rb)
    (hkey : Calls Tryd.prog 37 #[.iface T y] ((V.setCell ⟨rb, 2, none⟩ (.int .i64 4)).alloc (.cells #[.iface T y] 81)) fun e w' => e = .returned (.int .i64 k) ∧ (V.setCell ⟨rb, 2, none⟩ (.int .i64 4)).alloc (.cells #[.iface T y] 81) = w') :
    CallsD Tryd.prog 36 #[.pointer (some ⟨rv, 0, none⟩)] (.panicking ({ v := .iface 81 (.agg #[.iface T y]), recovered := false } :: older)) V
      fun e u' w' => e = .returned (.tuple #[]) ∧ u' = .panicking ({ v := .iface 81 (.agg #[.iface T y]), recovered := true } :: older) ∧
        w' = if 0 ≤ k then (((V.setCell ⟨rb, 2, none⟩ (.int .i64 4)).alloc (.cells #[.iface T y] 81)).setCell ⟨rb, 2, none⟩ (.int .i64 2)).setCell ⟨rb, 3, none⟩ (.int .i64 k) else (V.setCell ⟨rb, 2, none⟩ (.int .i64 4)).alloc (.cells #[.iface T y] 81) := by
  have hrl := World.block_lt_of_cell? _ _ hr
  have h2l := World.block_lt_of_cell? _ _ h2
  have hn := World.new_ne _ _ hr
  have hn' := World.new_ne _ _ h2
  refine callsD_of_wpS Tryd.func36 rfl fun c₀ cs hu => ?_
  apply wpS_seq
  apply wpS_region
  simp [wpOpsS, go_sem, recoverD, hu, Tryd.ntmps36, Exit.thenS]
  refine wpS_of_wp (Code.wp_mono (Q := fun e a w' => e = .normal ∧ a.defers = [] ∧ w' = if 0 ≤ k then (((V.setCell ⟨rb, 2, none⟩ (.int .i64 4)).alloc (.cells #[.iface T y] 81)).setCell ⟨rb, 2, none⟩ (.int .i64 2)).setCell ⟨rb, 3, none⟩ (.int .i64 k) else (V.setCell ⟨rb, 2, none⟩ (.int .i64 4)).alloc (.cells #[.iface T y] 81)) ?_ ?_)
  · rintro e a w' ⟨rfl, h1, rfl⟩
    cases c₀
    simp_all [bodyPostS, results, Tryd.results36]
  simp only [Array.replicate_succ, Array.replicate_zero, List.push_toArray, List.setIfInBounds_toArray, List.set_cons_zero, List.set_cons_succ, List.append_toArray, List.nil_append, List.cons_append]
  have HK := Lib.hid hkey
  clear hu hkey
  by_cases hk : 0 ≤ k
  · rw [if_pos hk]
    go_wp2_with (go_at_call 37; refine HK.out.mono ?_; rintro e w' ⟨rfl, rfl⟩)
  · rw [if_neg hk]
    have hk' : k < 0 := by omega
    go_wp2_with (go_at_call 37; refine HK.out.mono ?_; rintro e w' ⟨rfl, rfl⟩)
end Go.Proofs.YtnolhcdfknjncaaDoor

/-
  The program's evaluator: all of a run.
-/
set_option linter.unusedVariables false
set_option linter.unusedSimpArgs false
namespace Go.Proofs.YtnolhcdfknjncaaDoor
open Go.RowKit

/-- nothing turns but the run's record, of what stood -/
structure Rest (rb : Nat) (V V' : World) : Prop where
  os : V'.os = V.os
  tape : V'.tape = V.tape
  output : V'.output = V.output
  size : V.heap.size ≤ V'.heap.size
  same : ∀ k, k < V.heap.size → k ≠ rb → V'.heap[k]? = V.heap[k]?
theorem Rest.refl (rb : Nat) (V : World) : Rest rb V V := ⟨rfl, rfl, rfl, Nat.le_refl _, fun _ _ _ => rfl⟩
theorem Rest.alloc {rb : Nat} {V V' : World} (h : Rest rb V V') (o : Obj) : Rest rb V (V'.alloc o) :=
  have hb : Below V'.heap.size V' (V'.alloc o) := (Below.refl _ _).alloc (Nat.le_refl _) _
  ⟨h.os, h.tape, h.output, Nat.le_trans h.size hb.size, fun k hk hn => (hb.block k (Nat.lt_of_lt_of_le hk h.size)).trans (h.same k hk hn)⟩
theorem Rest.set {rb : Nat} {V V' : World} (h : Rest rb V V') (o : Nat) (v : Value) : Rest rb V (V'.setCell ⟨rb, o, none⟩ v) :=
  ⟨h.os, h.tape, h.output, by simpa [World.setCell] using h.size, fun k hk hn => (heap_set_ne hn _ _).trans (h.same k hk hn)⟩
theorem Rest.evo {rb : Nat} {V V' V2 : World} (h : Rest rb V V') {m m' : Mem} (hk : Evo rb m m' V' V2) (hm : ∀ k, m.mut rb k → k = rb ∨ V.heap.size ≤ k) : Rest rb V V2 :=
  ⟨hk.os.trans h.os, hk.tape.trans h.tape, hk.output.trans h.output, Nat.le_trans h.size hk.size, fun k hlt hn => (hk.same k (Nat.lt_of_lt_of_le hlt h.size) (fun hx => by rcases hm k hx with e | e; exact hn e; omega)).trans (h.same k hlt hn)⟩
def WholePost (rb B : Nat) (V : World) (pe : PEnd) (e : Ending) (V' : World) : Prop :=
  e = .returned (.tuple #[]) ∧ Rest rb V V' ∧ ∃ x0 x1 vo, V'.heap[rb]? = some (.cells #[x0, x1, .int .i64 pe.kind, .int .i64 pe.n, vo, .int .i64 pe.steps] 51 (0, 0)) ∧ V'.ownsRow B 3 1 vo pe.out.length (pe.out.map (Value.int .i64))

def m0 : Mem := ⟨[], [], .slice none 0 0, []⟩
theorem m0_mut {rb k : Nat} (h : m0.mut rb k) : k = rb := by
  rcases h with h | h | h
  · exact h
  · simp [m0, Value.ownBlock] at h
  · simp [m0] at h

/-- how the function ends that is handed over -/
def AllPost (rb B : Nat) (inp : List Int) (fuel : Nat) (V : World) (o : Out) (en : Ending) (V' : World) : Prop :=
  (∃ v s' m', o = (.val v, s') ∧ en = .returned (.tuple #[]) ∧ Evo rb m0 m' V V' ∧ Good rb B inp fuel s' m' V') ∨ (∃ ch, en = .panicked ch ∧ EvPost rb B inp fuel m0 V o (.panicked ch) V')

theorem run1_any {rb B : Nat} {inp : List Int} {fuel n : Nat} {s : St} {V : World} (hg : Good rb B inp fuel s m0 V) {t : Core} {c0 c1 c2 c3 : Value} (hin : CoreIn B V t #[c0, c1, c2, c3]) (hwt : WT t) (hn : s.left < n) {a7 a3 : Nat} (h7 : V.cell? ⟨a7, 0, none⟩ = some (.pointer (some ⟨rb, 0, none⟩)))
    (e0 : V.cell? ⟨a3, 0, none⟩ = some c0) (e1 : V.cell? ⟨a3, 1, none⟩ = some c1) (e2 : V.cell? ⟨a3, 2, none⟩ = some c2) (e3 : V.cell? ⟨a3, 3, none⟩ = some c3) :
    Calls Tryd.prog 25 #[.pointer (some ⟨a7, 0, none⟩), .pointer (some ⟨a3, 0, none⟩)] V (AllPost rb B inp fuel V (ev inp n t [] s)) := by
  have HC := Lib.hid ((term_ok rb B inp fuel n t [] s m0 V _ (.pointer none) hin hwt .nil hg hn))
  clear hg hin hwt hn
  generalize ev inp n t [] s = o at *
  go_enter Tryd.func25, Tryd.ntmps25
  go_wp2_with fail
  refine HC.out.mono ?_
  intro en w' h
  rcases h.inv with ⟨v, s', m', T, x, h1, rfl, h3, h4, _⟩ | ⟨ch, rfl, h2, h3, _⟩
  · go_wp2_with fail
    go_end0
    exact .inl ⟨v, s', m', h1, rfl, h3, h4⟩
  · exact ⟨rfl, .inr ⟨ch, rfl, h2 o h3 rfl⟩⟩

set_option maxRecDepth 100000 in
set_option maxHeartbeats 2000000 in
theorem whole_any {rb B : Nat} {inp : List Int} {fuel n : Nat} {V : World} (hg : Good rb B inp fuel (initSt fuel) m0 V) {t : Core} {c0 c1 c2 c3 : Value} (hin : CoreIn B V t #[c0, c1, c2, c3]) (hwt : WT t) (hn : fuel < n) {a7 a3 : Nat} (h7 : V.cell? ⟨a7, 0, none⟩ = some (.pointer (some ⟨rb, 0, none⟩)))
    (e0 : V.cell? ⟨a3, 0, none⟩ = some c0) (e1 : V.cell? ⟨a3, 1, none⟩ = some c1) (e2 : V.cell? ⟨a3, 2, none⟩ = some c2) (e3 : V.cell? ⟨a3, 3, none⟩ = some c3) :
    Calls Tryd.prog 24 #[.pointer (some ⟨rb, 0, none⟩), .func (.func 25) #[] #[.pointer (some ⟨a7, 0, none⟩), .pointer (some ⟨a3, 0, none⟩)]] V (WholePost rb B V (endOf fuel (ev inp n t [] (initSt fuel)))) := by
  have hb1 : Below V.heap.size V (V.alloc (.cells #[.pointer (some ⟨rb, 0, none⟩)] 49)) := (Below.refl _ _).alloc (Nat.le_refl _) _
  have hg1 := hg.below hb1
  have hrbl := hg.mutLt (k := rb) (.inl rfl)
  have aV := at_new (fun k hk => hg.apartLt hk) #[.pointer (some ⟨rb, 0, none⟩)] 49
  have HC := Lib.hid (run1_any hg1 (hin.stay (hg.stay (Evo.below hb1))) hwt (show (initSt fuel).left < n from hn) (cell_behind hb1 h7) (cell_behind hb1 e0) (cell_behind hb1 e1) (cell_behind hb1 e2) (cell_behind hb1 e3))
  have hR1 : Rest rb V (V.alloc (.cells #[.pointer (some ⟨rb, 0, none⟩)] 49)) := (Rest.refl _ _).alloc _
  have hmm : ∀ k, m0.mut rb k → k = rb ∨ V.heap.size ≤ k := fun k hk => .inl (m0_mut hk)
  generalize ev inp n t [] (initSt fuel) = o at *
  clear hg hin hwt hn hb1 hg1 h7 e0 e1 e2 e3
  go_enter_defers Tryd.func24, Tryd.ntmps24
  go_wp2_with fail
  refine HC.out.mono ?_
  -- what the closure finds
  have hfind : ∀ (s' : St) (m' : Mem) (V2 : World), Evo rb m0 m' (V.alloc (.cells #[.pointer (some ⟨rb, 0, none⟩)] 49)) V2 → Good rb B inp fuel s' m' V2 →
      V2.cell? ⟨V.heap.size, 0, none⟩ = some (.pointer (some ⟨rb, 0, none⟩)) ∧ (∃ x0 x1, V2.heap[rb]? = some (.cells #[x0, x1, .int .i64 0, .int .i64 0, m'.vo, .int .i64 ((fuel - s'.left : Nat) : Int)] 51 (0, 0))) ∧
      Rest rb V V2 ∧ V2.ownsRow B 3 1 m'.vo s'.out.length (s'.out.map (Value.int .i64)) ∧ m'.vo.ownBlock ≠ some rb := fun s' m' V2 hk hg' => by
    obtain ⟨Ai, ci, hr, _⟩ := hg'.run
    have hl := hg'.left
    refine ⟨at_cell0 (aV.evo hk) rfl, ⟨_, _, by rw [hr, show ((fuel - s'.left : Nat) : Int) = (fuel : Int) - s'.left by omega]⟩, hR1.evo hk hmm, hg'.out, hg'.rbo⟩
  -- how a store into the record leaves the row of ints
  have hrow : ∀ (V2 : World) (vo v : Value) (k o : Nat) (xs : List Value), V2.ownsRow B 3 1 vo k xs → vo.ownBlock ≠ some rb → (V2.setCell ⟨rb, o, none⟩ v).ownsRow B 3 1 vo k xs := fun V2 vo v k o xs h hne =>
    h.kept (row := some rb) ⟨rfl, rfl, rfl, by simp [World.setCell], fun i hi h => heap_set_ne (fun e => h (by rw [e])) _ _⟩ (.inr hne)
  have halo : ∀ (V2 : World) (o : Obj), rb < V2.heap.size → (V2.alloc o).heap[rb]? = V2.heap[rb]? := fun V2 o h => ((Below.refl V2.heap.size V2).alloc (Nat.le_refl _) o).block rb h
  intro en V2 h
  rcases h with ⟨v, s', m', rfl, rfl, hk, hg'⟩ | ⟨ch, rfl, hp⟩
  · obtain ⟨f1, ⟨x0, x1, f2⟩, f3, f4, f5⟩ := hfind s' m' V2 hk hg'
    have q2 : V2.cell? ⟨rb, 2, none⟩ = some (.int .i64 0) := by simp [World.cell?, f2]
    have z2 : V2.frozen? ⟨rb, 2, none⟩ = false := by simp [World.frozen?, f2]
    have HP := Lib.hid (show WholePost rb B V (endOf fuel (.val v, s')) (.returned (.tuple #[])) (V2.setCell ⟨rb, 2, none⟩ (.int .i64 1)) from
      ⟨rfl, f3.set _ _, x0, x1, m'.vo, by rw [heap_set_self f2]; rfl, hrow _ _ _ _ _ _ f4 f5⟩)
    clear hfind hrow halo hk hg' f3 f4 f5
    go_wp2_with fail
    refine leaves_cons (f := 36) (args := #[.pointer (some ⟨V.heap.size, 0, none⟩)]) (by simp) (by simp [go_sem]) ?_
    refine (whole1_idle _ rb (.nilIface) _ f1 q2 z2).mono ?_
    rintro e u' w'' ⟨rfl, rfl, rfl⟩
    simp [Leaves, settle, results, Tryd.results24, go_sem]
    exact HP.out
  · cases hp with
    | @raised v s' m' _ g _ hk hg' hv hkey hth =>
      obtain ⟨older, rfl, hold⟩ := hth
      obtain ⟨key, hkey⟩ := hkey
      obtain ⟨T, y, rfl⟩ := hv.shape
      obtain ⟨f1, ⟨x0, x1, f2⟩, f3, f4, f5⟩ := hfind s' m' V2 hk hg'
      have q2 : V2.cell? ⟨rb, 2, none⟩ = some (.int .i64 0) := by simp [World.cell?, f2]
      have z2 : V2.frozen? ⟨rb, 2, none⟩ = false := by simp [World.frozen?, f2]
      have q3 : V2.cell? ⟨rb, 3, none⟩ = some (.int .i64 0) := by simp [World.cell?, f2]
      have z3 : V2.frozen? ⟨rb, 3, none⟩ = false := by simp [World.frozen?, f2]
      have hv4 : RepV rb m' ((V2.setCell ⟨rb, 2, none⟩ (.int .i64 4)).alloc (.cells #[.iface T y] 81)) v (.iface T y) := (hv.evo (Evo.setCell V2 2 _ (.inl rfl))).evo (Evo.alloc _ _ _ _)
      have hK := (key_any hv4).mono (R' := fun e w' => e = .returned (.int .i64 key) ∧ (V2.setCell ⟨rb, 2, none⟩ (.int .i64 4)).alloc (.cells #[.iface T y] 81) = w') (by
        rintro e w' (⟨n, hn, rfl, rfl⟩ | ⟨hn, rfl, rfl⟩)
        · rw [hkey] at hn; cases hn; exact ⟨rfl, rfl⟩
        · rw [hkey] at hn; cases hn)
      have hrb2 : rb < V2.heap.size := (Array.getElem?_eq_some_iff.1 f2).1
      have hs1 : ((V2.setCell ⟨rb, 2, none⟩ (.int .i64 4)).alloc (.cells #[.iface T y] 81)).heap[rb]? = some (.cells #[x0, x1, .int .i64 4, .int .i64 0, m'.vo, .int .i64 ((fuel - s'.left : Nat) : Int)] 51 (0, 0)) := by
        rw [halo _ _ (by simpa [World.setCell] using hrb2), heap_set_self f2]; rfl
      have ho1 := (hrow _ _ (.int .i64 4) _ 2 _ f4 f5).alloc (.cells #[.iface T y] 81)
      have hr1 := (f3.set 2 (.int .i64 4)).alloc (.cells #[.iface T y] 81)
      refine leaves_cons (f := 36) (args := #[.pointer (some ⟨V.heap.size, 0, none⟩)]) (by simp) (by simp [go_sem]) ?_
      refine (whole1_raised _ rb key T y older _ f1 q2 z2 q3 z3 (by omega) hK).mono ?_
      rintro e u' w'' ⟨rfl, rfl, rfl⟩
      show Leaves _ _ _ _ [] (settle _) _
      rw [settle_thrown hold]
      by_cases hk0 : 0 ≤ key
      · have he : endOf fuel (.raised v, s') = ⟨2, key, s'.out, fuel - s'.left⟩ := by simp [endOf, hkey, hk0]
        rw [if_pos hk0, he]
        simp only [Leaves, results, Tryd.results24]
        refine ⟨.tuple #[], by simp, rfl, (hr1.set _ _).set _ _, x0, x1, m'.vo, ?_, hrow _ _ _ _ _ _ (hrow _ _ _ _ _ _ ho1 f5) f5⟩
        have h2 := heap_set_self hs1 2 (.int .i64 2)
        rw [heap_set_self h2]
        rfl
      · have he : endOf fuel (.raised v, s') = ⟨4, 0, s'.out, fuel - s'.left⟩ := by simp [endOf, hkey, hk0]
        rw [if_neg hk0, he]
        simp only [Leaves, results, Tryd.results24]
        exact ⟨.tuple #[], by simp, rfl, hr1, x0, x1, m'.vo, hs1, ho1⟩
    | @stuck s' m' _ _ hk hg' hth =>
      obtain ⟨older, rfl, hold⟩ := hth
      obtain ⟨f1, ⟨x0, x1, f2⟩, f3, f4, f5⟩ := hfind s' m' V2 hk hg'
      have q2 : V2.cell? ⟨rb, 2, none⟩ = some (.int .i64 0) := by simp [World.cell?, f2]
      have z2 : V2.frozen? ⟨rb, 2, none⟩ = false := by simp [World.frozen?, f2]
      refine leaves_cons (f := 36) (args := #[.pointer (some ⟨V.heap.size, 0, none⟩)]) (by simp) (by simp [go_sem]) ?_
      refine (whole1_stop _ rb 4 older _ f1 q2 z2).mono ?_
      rintro e u' w'' ⟨rfl, rfl, rfl⟩
      show Leaves _ _ _ _ [] (settle _) _
      rw [settle_thrown hold]
      simp only [Leaves, results, Tryd.results24]
      refine ⟨.tuple #[], by simp, rfl, (f3.alloc _).set _ _, x0, x1, m'.vo, ?_, hrow _ _ _ _ _ _ (f4.alloc _) f5⟩
      rw [heap_set_self ((halo V2 _ (Array.getElem?_eq_some_iff.1 f2).1).trans f2)]; rfl
    | @cut s' m' _ _ hk hg' hth =>
      obtain ⟨older, rfl, hold⟩ := hth
      obtain ⟨f1, ⟨x0, x1, f2⟩, f3, f4, f5⟩ := hfind s' m' V2 hk hg'
      have q2 : V2.cell? ⟨rb, 2, none⟩ = some (.int .i64 0) := by simp [World.cell?, f2]
      have z2 : V2.frozen? ⟨rb, 2, none⟩ = false := by simp [World.frozen?, f2]
      refine leaves_cons (f := 36) (args := #[.pointer (some ⟨V.heap.size, 0, none⟩)]) (by simp) (by simp [go_sem]) ?_
      refine (whole1_stop _ rb 3 older _ f1 q2 z2).mono ?_
      rintro e u' w'' ⟨rfl, rfl, rfl⟩
      show Leaves _ _ _ _ [] (settle _) _
      rw [settle_thrown hold]
      simp only [Leaves, results, Tryd.results24]
      refine ⟨.tuple #[], by simp, rfl, (f3.alloc _).set _ _, x0, x1, m'.vo, ?_, hrow _ _ _ _ _ _ (f4.alloc _) f5⟩
      rw [heap_set_self ((halo V2 _ (Array.getElem?_eq_some_iff.1 f2).1).trans f2)]; rfl
end Go.Proofs.YtnolhcdfknjncaaDoor

/-
  The program's evaluator: ceval.Run.
-/
set_option linter.unusedVariables false
set_option linter.unusedSimpArgs false
namespace Go.Proofs.YtnolhcdfknjncaaDoor
open Go.RowKit

/-- what a run's end is -/
def runE (t : Core) (inp : List Int) (f : Int) : PEnd := if rightE t = 0 then endOf (fuelOf f) (runOut t inp f) else ⟨4, 0, [], 0⟩
/-- a run's end in memory -/
def EndIn (B : Nat) (w : World) (pe : PEnd) (e : Ending) (w' : World) : Prop :=
  ∃ A c, e = .returned (.agg #[.int .i64 pe.kind, .int .i64 pe.n, .slice A pe.out.length c, .int .i64 pe.steps]) ∧ IntsIn w'.heap.size w' A pe.out ∧ pe.out.length ≤ c ∧ (∀ a, A = some a → B ≤ a.block) ∧ Below w.heap.size w w'

set_option maxRecDepth 100000 in
set_option maxHeartbeats 2000000 in
theorem run_wrong {B : Nat} {W : World} {t : Core} {v : Array Value} (hin : CoreIn B W t v) (hB : B ≤ W.heap.size) (hg : 0 < B) (ht : TabIn W) (hh : 1 + (t.hgt : Int) ≤ 60000) (inp f : Value) (hr : rightE t ≠ 0) :
    Calls Tryd.prog 9 #[.agg v, inp, f] W (EndIn B W ⟨4, 0, [], 0⟩) := by
  obtain ⟨k0, n0, A2, n2, d2, A3, n3, d3, rfl⟩ := hin.shape
  have hb1 : Below W.heap.size W ((W.alloc (.cells #[.int .i64 k0, .int .i64 n0, .slice A2 n2 d2, .slice A3 n3 d3] 26)).alloc (.cells #[.int .i64 0, .int .i64 0, .slice none 0 0, .int .i64 0] 31)) := ((Below.refl _ _).alloc (Nat.le_refl _) _).alloc (by rw [World.size_alloc]; exact Nat.le_succ _) _
  have HR := Lib.hid (right_any _ (hin.kept (hb1.mono hB)) (Nat.le_trans hB hb1.size) hg (ht.kept (Nat.lt_of_lt_of_le hg hB) hb1) hh)
  have hrr : (rightE t == 0) = false := by simpa using hr
  have HB := Lib.hid hb1
  generalize rightE t = r at *
  clear hin ht hb1
  go_enter Tryd.func9, Tryd.ntmps9
  go_wp2_with fail
  refine HR.out.mono ?_
  rintro e w' ⟨rfl, hb2⟩
  have h31 : w'.heap[W.heap.size + 1]? = some (.cells #[.int .i64 0, .int .i64 0, .slice none 0 0, .int .i64 0] 31 (0, 0)) := by
    refine (hb2.block (W.heap.size + 1) (by simp)).trans ?_
    have := World.alloc_heap_new (W.alloc (.cells #[.int .i64 k0, .int .i64 n0, .slice A2 n2 d2, .slice A3 n3 d3] 26)) (.cells #[.int .i64 0, .int .i64 0, .slice none 0 0, .int .i64 0] 31)
    rw [World.size_alloc] at this
    exact this
  have c0 : w'.cell? ⟨W.heap.size + 1, 0, none⟩ = some (.int .i64 0) := by simp [World.cell?, h31]
  have c1 : w'.cell? ⟨W.heap.size + 1, 1, none⟩ = some (.int .i64 0) := by simp [World.cell?, h31]
  have c2 : w'.cell? ⟨W.heap.size + 1, 2, none⟩ = some (.slice none 0 0) := by simp [World.cell?, h31]
  have c3 : w'.cell? ⟨W.heap.size + 1, 3, none⟩ = some (.int .i64 0) := by simp [World.cell?, h31]
  have fz : ∀ i, w'.frozen? ⟨W.heap.size + 1, i, none⟩ = false := fun i => by simp [World.frozen?, h31]
  have hb3 : Below W.heap.size W w' := HB.out.trans (hb2.mono HB.out.size)
  have HB3 := Lib.hid hb3
  clear hb2 hb3 h31
  go_wp2_with fail
  refine bodyPost_ret (v := .agg #[.int .i64 4, .int .i64 0, .slice none 0 0, .int .i64 0]) (by simp [results, Tryd.results9, go_sem, c0, c1, c2, c3]) rfl ?_
  refine ⟨none, 0, rfl, ⟨by simp, .inl rfl⟩, by simp, (by intro a h; cases h), ?_⟩
  exact (((HB3.out.setCell (p := ⟨_, _, none⟩) (Nat.le_succ _) _).setCell (p := ⟨_, _, none⟩) (Nat.le_succ _) _).setCell (p := ⟨_, _, none⟩) (Nat.le_succ _) _).setCell (p := ⟨_, _, none⟩) (Nat.le_succ _) _

theorem endOf_out (F : Nat) (o : Out) : (endOf F o).out = o.2.out := by
  obtain ⟨r, s⟩ := o
  cases r <;> simp [endOf]
  split <;> rfl
theorem fuelOf_int (f : Int) : ((fuelOf f : Nat) : Int) = min (max f 0) 1000000 := by unfold fuelOf; omega
theorem fuelOf_le (f : Int) : fuelOf f ≤ 1000000 := by unfold fuelOf; omega

/-- a run's record as it is made -/
theorem good_start {B : Nat} {w V : World} {inp : List Int} {F : Nat} (hF : F ≤ 1000000) {Ai : Option Addr} {ci : Nat} (hi : IntsIn B w Ai inp) (hci : inp.length ≤ ci) (hB : B ≤ w.heap.size)
    (hV : Below w.heap.size w V) (hr : V.heap[w.heap.size]? = some (.cells #[.slice Ai inp.length ci, .int .i64 F, .int .i64 0, .int .i64 0, .slice none 0 0, .int .i64 0] 51 (0, 0))) :
    Good w.heap.size B inp F (initSt F) m0 V :=
  ⟨Nat.le_trans hB hV.size, hB, Nat.le_refl _, hF, by simp [initSt], ⟨Ai, ci, by simpa [initSt, m0] using hr, by simpa [initSt] using hi.below (hV.mono hB), by simpa [initSt] using hci⟩,
    ⟨by simp [initSt], .inl ⟨rfl, rfl⟩⟩, rfl, by intro i h; simp [initSt] at h, rfl, by intro i h; simp [initSt] at h, by simp [m0], by simp [m0], by simp [m0, Value.ownBlock], by intro b h; simp [m0] at h, by intro b h; simp [m0] at h, by intro k h; simp [m0] at h⟩

set_option maxRecDepth 100000 in
set_option maxHeartbeats 4000000 in
theorem run_right {B : Nat} {W : World} {t : Core} {v : Array Value} (hin : CoreIn B W t v) (hB : B ≤ W.heap.size) (hg : 0 < B) (ht : TabIn W) (hh : 1 + (t.hgt : Int) ≤ 60000) {inp : List Int} {Ai : Option Addr} {ci : Nat} (hi : IntsIn B W Ai inp) (hci : inp.length ≤ ci) (f : Int) (hr : rightE t = 0) :
    Calls Tryd.prog 9 #[.agg v, .slice Ai inp.length ci, .int .i64 f] W (EndIn B W (endOf (fuelOf f) (runOut t inp f))) := by
  obtain ⟨k0, n0, A2, n2, d2, A3, n3, d3, rfl⟩ := hin.shape
  have hb1 : Below W.heap.size W ((W.alloc (.cells #[.int .i64 k0, .int .i64 n0, .slice A2 n2 d2, .slice A3 n3 d3] 26)).alloc (.cells #[.int .i64 0, .int .i64 0, .slice none 0 0, .int .i64 0] 31)) := ((Below.refl _ _).alloc (Nat.le_refl _) _).alloc (by rw [World.size_alloc]; exact Nat.le_succ _) _
  have HR := Lib.hid (right_any _ (hin.kept (hb1.mono hB)) (Nat.le_trans hB hb1.size) hg (ht.kept (Nat.lt_of_lt_of_le hg hB) hb1) hh)
  have hwt := Lib.hid (wt_of_right hr)
  have HB := Lib.hid hb1
  have HI := Lib.hid hi
  have HIN := Lib.hid hin
  have hlen64 := hi.1
  obtain ⟨L, hL⟩ : ∃ L, inp.length = L := ⟨_, rfl⟩
  have HLL := Lib.hid hL
  rw [hL] at hci hlen64 ⊢
  rw [hr] at HR
  clear hin ht hb1 hi hL
  go_enter Tryd.func9, Tryd.ntmps9
  go_wp2_with fail
  refine HR.out.mono ?_
  rintro e w' ⟨rfl, hb2⟩
  have h30 : w'.heap[W.heap.size]? = some (.cells #[.int .i64 k0, .int .i64 n0, .slice A2 n2 d2, .slice A3 n3 d3] 26 (0, 0)) := by
    refine (hb2.block W.heap.size (by simp; omega)).trans ?_
    refine (((Below.refl _ _).alloc (Nat.le_refl _) _ : Below (W.alloc (.cells #[.int .i64 k0, .int .i64 n0, .slice A2 n2 d2, .slice A3 n3 d3] 26)).heap.size _ _).block W.heap.size (by simp)).trans ?_
    exact World.alloc_heap_new W _
  have h31 : w'.heap[W.heap.size + 1]? = some (.cells #[.int .i64 0, .int .i64 0, .slice none 0 0, .int .i64 0] 31 (0, 0)) := by
    refine (hb2.block (W.heap.size + 1) (by simp)).trans ?_
    have := World.alloc_heap_new (W.alloc (.cells #[.int .i64 k0, .int .i64 n0, .slice A2 n2 d2, .slice A3 n3 d3] 26)) (.cells #[.int .i64 0, .int .i64 0, .slice none 0 0, .int .i64 0] 31)
    rw [World.size_alloc] at this
    exact this
  have hb3 : Below W.heap.size W w' := HB.out.trans (hb2.mono HB.out.size)
  have hsz : W.heap.size + 2 ≤ w'.heap.size := by have := hb2.size; simp at this; omega
  have HB3 := Lib.hid hb3
  have H31 := Lib.hid h31
  have HC := Lib.hid (fun (X : Nat) (FI : Int) (hX : X = (inp.take 4096).length) (hFI : FI = ((fuelOf f : Nat) : Int)) =>
    (show Calls Tryd.prog 24 #[.pointer (some ⟨w'.heap.size, 0, none⟩), .func (.func 25) #[] #[.pointer (some ⟨w'.heap.size + 1, 0, none⟩), .pointer (some ⟨W.heap.size, 0, none⟩)]]
        ((w'.alloc (.cells #[.slice Ai X ci, .int .i64 FI, .int .i64 0, .int .i64 0, .slice none 0 0, .int .i64 0] 51)).alloc (.cells #[.pointer (some ⟨w'.heap.size, 0, none⟩)] 49))
        (WholePost w'.heap.size B ((w'.alloc (.cells #[.slice Ai X ci, .int .i64 FI, .int .i64 0, .int .i64 0, .slice none 0 0, .int .i64 0] 51)).alloc (.cells #[.pointer (some ⟨w'.heap.size, 0, none⟩)] 49)) (endOf (fuelOf f) (runOut t inp f))) from by
      subst hX hFI
      have hV : Below w'.heap.size w' ((w'.alloc (.cells #[.slice Ai (inp.take 4096).length ci, .int .i64 (fuelOf f), .int .i64 0, .int .i64 0, .slice none 0 0, .int .i64 0] 51)).alloc (.cells #[.pointer (some ⟨w'.heap.size, 0, none⟩)] 49)) := ((Below.refl _ _).alloc (Nat.le_refl _) _).alloc (by rw [World.size_alloc]; exact Nat.le_succ _) _
      have hbB := hb3.mono hB
      have hrr : ((w'.alloc (.cells #[.slice Ai (inp.take 4096).length ci, .int .i64 (fuelOf f), .int .i64 0, .int .i64 0, .slice none 0 0, .int .i64 0] 51)).alloc (.cells #[.pointer (some ⟨w'.heap.size, 0, none⟩)] 49)).heap[w'.heap.size]? = some (.cells #[.slice Ai (inp.take 4096).length ci, .int .i64 (fuelOf f), .int .i64 0, .int .i64 0, .slice none 0 0, .int .i64 0] 51 (0, 0)) := by
        refine (((Below.refl _ _).alloc (Nat.le_refl _) _ : Below (w'.alloc (.cells #[.slice Ai (inp.take 4096).length ci, .int .i64 (fuelOf f), .int .i64 0, .int .i64 0, .slice none 0 0, .int .i64 0] 51)).heap.size _ _).block w'.heap.size (by simp)).trans ?_
        exact World.alloc_heap_new w' _
      have hgood := good_start (fuelOf_le f) ((HI.out.take 4096).below hbB) (by have := HLL.out; simp; omega) (Nat.le_trans hB hb3.size) hV hrr
      have h7 : ((w'.alloc (.cells #[.slice Ai (inp.take 4096).length ci, .int .i64 (fuelOf f), .int .i64 0, .int .i64 0, .slice none 0 0, .int .i64 0] 51)).alloc (.cells #[.pointer (some ⟨w'.heap.size, 0, none⟩)] 49)).cell? ⟨w'.heap.size + 1, 0, none⟩ = some (.pointer (some ⟨w'.heap.size, 0, none⟩)) := by
        rw [World.cell?_alloc_at _ _ _ _ (by simp)]; rfl
      have hcc : ∀ i, w'.cell? ⟨W.heap.size, i, none⟩ = (#[Value.int .i64 k0, .int .i64 n0, .slice A2 n2 d2, .slice A3 n3 d3] : Array Value)[i]? := fun i => by simp [World.cell?, h30]
      exact whole_any hgood ((HIN.out.kept hbB).kept (hV.mono (Nat.le_trans hB hb3.size))) hwt.out (Nat.lt_succ_self _) h7 (cell_behind hV (hcc 0)) (cell_behind hV (hcc 1)) (cell_behind hV (hcc 2)) (cell_behind hV (hcc 3))))
  have HE := Lib.hid (fun (X : Nat) (FI : Int) (V' : World) (hP : WholePost w'.heap.size B ((w'.alloc (.cells #[.slice Ai X ci, .int .i64 FI, .int .i64 0, .int .i64 0, .slice none 0 0, .int .i64 0] 51)).alloc (.cells #[.pointer (some ⟨w'.heap.size, 0, none⟩)] 49)) (endOf (fuelOf f) (runOut t inp f)) (.returned (.tuple #[])) V') =>
    (show ∃ A k c, (V'.cell? ⟨w'.heap.size + 1, 0, none⟩ = some (.pointer (some ⟨w'.heap.size, 0, none⟩)) ∧ V'.cell? ⟨w'.heap.size, 2, none⟩ = some (.int .i64 (endOf (fuelOf f) (runOut t inp f)).kind) ∧ V'.cell? ⟨w'.heap.size, 3, none⟩ = some (.int .i64 (endOf (fuelOf f) (runOut t inp f)).n) ∧
        V'.cell? ⟨w'.heap.size, 4, none⟩ = some (.slice A k c) ∧ V'.cell? ⟨w'.heap.size, 5, none⟩ = some (.int .i64 (endOf (fuelOf f) (runOut t inp f)).steps) ∧
        V'.cell? ⟨W.heap.size + 1, 0, none⟩ = some (.int .i64 0) ∧ V'.cell? ⟨W.heap.size + 1, 1, none⟩ = some (.int .i64 0) ∧ V'.cell? ⟨W.heap.size + 1, 2, none⟩ = some (.slice none 0 0) ∧ V'.cell? ⟨W.heap.size + 1, 3, none⟩ = some (.int .i64 0)) ∧
        (∀ i, V'.frozen? ⟨W.heap.size + 1, i, none⟩ = false) ∧
        ∀ V2, V'.heap.size ≤ V2.heap.size → V2.os = V'.os → V2.tape = V'.tape → V2.output = V'.output → (∀ k, k ≠ W.heap.size + 1 → V2.heap[k]? = V'.heap[k]?) →
          EndIn B W (endOf (fuelOf f) (runOut t inp f)) (.returned (.agg #[.int .i64 (endOf (fuelOf f) (runOut t inp f)).kind, .int .i64 (endOf (fuelOf f) (runOut t inp f)).n, .slice A k c, .int .i64 (endOf (fuelOf f) (runOut t inp f)).steps])) V2 from by
      obtain ⟨_, hrest, x0, x1, vo, hrec, hout⟩ := hP
      have hsV : ((w'.alloc (.cells #[.slice Ai X ci, .int .i64 FI, .int .i64 0, .int .i64 0, .slice none 0 0, .int .i64 0] 51)).alloc (.cells #[.pointer (some ⟨w'.heap.size, 0, none⟩)] 49)).heap.size = w'.heap.size + 2 := by simp
      have hV : Below w'.heap.size w' ((w'.alloc (.cells #[.slice Ai X ci, .int .i64 FI, .int .i64 0, .int .i64 0, .slice none 0 0, .int .i64 0] 51)).alloc (.cells #[.pointer (some ⟨w'.heap.size, 0, none⟩)] 49)) := ((Below.refl _ _).alloc (Nat.le_refl _) _).alloc (by rw [World.size_alloc]; exact Nat.le_succ _) _
      have h6 : V'.heap[W.heap.size + 1]? = some (.cells #[.int .i64 0, .int .i64 0, .slice none 0 0, .int .i64 0] 31 (0, 0)) := (hrest.same _ (by rw [hsV]; omega) (by omega)).trans ((hV.block _ (by omega)).trans h31)
      have h7 : V'.cell? ⟨w'.heap.size + 1, 0, none⟩ = some (.pointer (some ⟨w'.heap.size, 0, none⟩)) := by
        refine (cell_of_heap (hrest.same (w'.heap.size + 1) (by rw [hsV]; omega) (by omega)) 0).trans ?_
        rw [World.cell?_alloc_at _ _ _ _ (by simp)]; rfl
      have hoL : (endOf (fuelOf f) (runOut t inp f)).out.length ≤ 1000000 := by
        rw [endOf_out]
        have h1 := (ev_le (inp.take 4096) (fuelOf f + 1) t [] (initSt (fuelOf f))).out
        have h2 := fuelOf_le f
        unfold runOut
        simp [initSt] at h1 ⊢
        omega
      have hvo : ∃ A k c, vo = .slice A k c := ownsRow_shape hout
      obtain ⟨A, k, c, rfl⟩ := hvo
      refine ⟨A, k, c, ⟨h7, by simp [World.cell?, hrec], by simp [World.cell?, hrec], by simp [World.cell?, hrec], by simp [World.cell?, hrec], by simp [World.cell?, h6], by simp [World.cell?, h6], by simp [World.cell?, h6], by simp [World.cell?, h6]⟩, fun i => by simp [World.frozen?, h6], fun V2 e1 e2 e3 e4 e5 => ?_⟩
      have hout2 := ownsRow_same hout (w' := V2) (fun q hq => e5 q (by
        rintro rfl
        rcases hout.2 with ⟨h0, _⟩ | ⟨g, cap, cur, h0, _, hgg, _⟩
        · rw [h0] at hq; simp [Value.ownBlock] at hq
        · rw [h0] at hq; simp [Value.ownBlock] at hq
          subst hq
          have := hgg.symm.trans h6
          simp only [Option.some.injEq, Obj.cells.injEq] at this
          exact absurd this.2.1 (by decide)))
      obtain ⟨A', c', hA, hints, hc⟩ := own_ints hout2 (by omega)
      cases hA
      have hlo : ∀ a, A = some a → B ≤ a.block := fun a ha => by
        subst ha
        exact (hout2.lt a.block rfl).1
      refine ⟨A, c, rfl, hints, hc, hlo, ?_⟩
      have hbV : Below W.heap.size W V' := hb3.trans ⟨(hrest.os.trans hV.os), (hrest.tape.trans hV.tape), (hrest.output.trans hV.output), Nat.le_trans hV.size hrest.size, fun q hq => (hrest.same q (by rw [hsV]; omega) (by omega)).trans (hV.block q (by omega))⟩
      exact ⟨e2.trans hbV.os, e3.trans hbV.tape, e4.trans hbV.output, Nat.le_trans hbV.size e1, fun q hq => (e5 q (by omega)).trans (hbV.block q hq)⟩))
  have hfi := fuelOf_int f
  have HFI := Lib.hid hfi
  have hne7 : w'.heap.size ≠ W.heap.size + 1 := by omega
  clear hb2 hb3 h30 h31 hfi
  generalize endOf (fuelOf f) (runOut t inp f) = pe at *
  go_wp2_with fail
  all_goals
    refine (HC.out _ _ (by have := HLL.out; simp; omega) (by have := HFI.out; omega)).mono ?_
    intro e V' hP
    obtain ⟨rfl, _⟩ := id hP
    obtain ⟨A, k, c, ⟨r7, r2, r3, r4, r5, r60, r61, r62, r63⟩, rfz, hfin⟩ := HE.out _ _ _ hP
    have HFIN := Lib.hid hfin
    clear hP hfin
    go_wp2_with fail
    refine bodyPost_ret (v := .agg #[.int .i64 pe.kind, .int .i64 pe.n, .slice A k c, .int .i64 pe.steps]) (by simp [results, Tryd.results9, go_sem, r60, r61, r62, r63]) rfl ?_
    refine HFIN.out _ (by simp [World.setCell]) rfl rfl rfl (fun q hq => ?_)
    rw [heap_set_ne hq, heap_set_ne hq, heap_set_ne hq, heap_set_ne hq]

theorem run_any {B : Nat} {W : World} {t : Core} {v : Array Value} (hin : CoreIn B W t v) (hB : B ≤ W.heap.size) (hg : 0 < B) (ht : TabIn W) (hh : 1 + (t.hgt : Int) ≤ 60000) {inp : List Int} {Ai : Option Addr} {ci : Nat} (hi : IntsIn B W Ai inp) (hci : inp.length ≤ ci) (f : Int) :
    Calls Tryd.prog 9 #[.agg v, .slice Ai inp.length ci, .int .i64 f] W (EndIn B W (runE t inp f)) := by
  unfold runE
  split
  · exact run_right hin hB hg ht hh hi hci f (by assumption)
  · exact run_wrong hin hB hg ht hh _ _ (by assumption)
end Go.Proofs.YtnolhcdfknjncaaDoor
