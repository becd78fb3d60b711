/-
  The program's evaluator: all of a run.
-/
import Derived.Test.YtnolhcdfknjncaaDoorU1
set_option linter.unusedVariables false
set_option linter.unusedSimpArgs false
namespace Go.Proofs.YtnolhcdfknjncaaDoor
open Go.RowKit

/-- nothing turns but the run's record, of what stood -/
structure Rest (rb : Nat) (V V' : World) : Prop where
  os : V'.os = V.os
  tape : V'.tape = V.tape
  output : V'.output = V.output
  size : V.heap.size ≤ V'.heap.size
  same : ∀ k, k < V.heap.size → k ≠ rb → V'.heap[k]? = V.heap[k]?
theorem Rest.refl (rb : Nat) (V : World) : Rest rb V V := ⟨rfl, rfl, rfl, Nat.le_refl _, fun _ _ _ => rfl⟩
theorem Rest.alloc {rb : Nat} {V V' : World} (h : Rest rb V V') (o : Obj) : Rest rb V (V'.alloc o) :=
  have hb : Below V'.heap.size V' (V'.alloc o) := (Below.refl _ _).alloc (Nat.le_refl _) _
  ⟨h.os, h.tape, h.output, Nat.le_trans h.size hb.size, fun k hk hn => (hb.block k (Nat.lt_of_lt_of_le hk h.size)).trans (h.same k hk hn)⟩
theorem Rest.set {rb : Nat} {V V' : World} (h : Rest rb V V') (o : Nat) (v : Value) : Rest rb V (V'.setCell ⟨rb, o, none⟩ v) :=
  ⟨h.os, h.tape, h.output, by simpa [World.setCell] using h.size, fun k hk hn => (heap_set_ne hn _ _).trans (h.same k hk hn)⟩
theorem Rest.evo {rb : Nat} {V V' V2 : World} (h : Rest rb V V') {m m' : Mem} (hk : Evo rb m m' V' V2) (hm : ∀ k, m.mut rb k → k = rb ∨ V.heap.size ≤ k) : Rest rb V V2 :=
  ⟨hk.os.trans h.os, hk.tape.trans h.tape, hk.output.trans h.output, Nat.le_trans h.size hk.size, fun k hlt hn => (hk.same k (Nat.lt_of_lt_of_le hlt h.size) (fun hx => by rcases hm k hx with e | e; exact hn e; omega)).trans (h.same k hlt hn)⟩
def WholePost (rb B : Nat) (V : World) (pe : PEnd) (e : Ending) (V' : World) : Prop :=
  e = .returned (.tuple #[]) ∧ Rest rb V V' ∧ ∃ x0 x1 vo, V'.heap[rb]? = some (.cells #[x0, x1, .int .i64 pe.kind, .int .i64 pe.n, vo, .int .i64 pe.steps] 51 (0, 0)) ∧ V'.ownsRow B 3 1 vo pe.out.length (pe.out.map (Value.int .i64))

def m0 : Mem := ⟨[], [], .slice none 0 0, []⟩
theorem m0_mut {rb k : Nat} (h : m0.mut rb k) : k = rb := by
  rcases h with h | h | h
  · exact h
  · simp [m0, Value.ownBlock] at h
  · simp [m0] at h

/-- how the function ends that is handed over -/
def AllPost (rb B : Nat) (inp : List Int) (fuel : Nat) (V : World) (o : Out) (en : Ending) (V' : World) : Prop :=
  (∃ v s' m', o = (.val v, s') ∧ en = .returned (.tuple #[]) ∧ Evo rb m0 m' V V' ∧ Good rb B inp fuel s' m' V') ∨ (∃ ch, en = .panicked ch ∧ EvPost rb B inp fuel m0 V o (.panicked ch) V')

theorem run1_any {rb B : Nat} {inp : List Int} {fuel n : Nat} {s : St} {V : World} (hg : Good rb B inp fuel s m0 V) {t : Core} {c0 c1 c2 c3 : Value} (hin : CoreIn B V t #[c0, c1, c2, c3]) (hwt : WT t) (hn : s.left < n) {a7 a3 : Nat} (h7 : V.cell? ⟨a7, 0, none⟩ = some (.pointer (some ⟨rb, 0, none⟩)))
    (e0 : V.cell? ⟨a3, 0, none⟩ = some c0) (e1 : V.cell? ⟨a3, 1, none⟩ = some c1) (e2 : V.cell? ⟨a3, 2, none⟩ = some c2) (e3 : V.cell? ⟨a3, 3, none⟩ = some c3) :
    Calls Tryd.prog 25 #[.pointer (some ⟨a7, 0, none⟩), .pointer (some ⟨a3, 0, none⟩)] V (AllPost rb B inp fuel V (ev inp n t [] s)) := by
  have HC := Lib.hid ((term_ok rb B inp fuel n t [] s m0 V _ (.pointer none) hin hwt .nil hg hn))
  clear hg hin hwt hn
  generalize ev inp n t [] s = o at *
  go_enter Tryd.func25, Tryd.ntmps25
  go_wp2_with fail
  refine HC.out.mono ?_
  intro en w' h
  rcases h.inv with ⟨v, s', m', T, x, h1, rfl, h3, h4, _⟩ | ⟨ch, rfl, h2, h3, _⟩
  · go_wp2_with fail
    go_end0
    exact .inl ⟨v, s', m', h1, rfl, h3, h4⟩
  · exact ⟨rfl, .inr ⟨ch, rfl, h2 o h3 rfl⟩⟩

set_option maxRecDepth 100000 in
set_option maxHeartbeats 2000000 in
theorem whole_any {rb B : Nat} {inp : List Int} {fuel n : Nat} {V : World} (hg : Good rb B inp fuel (initSt fuel) m0 V) {t : Core} {c0 c1 c2 c3 : Value} (hin : CoreIn B V t #[c0, c1, c2, c3]) (hwt : WT t) (hn : fuel < n) {a7 a3 : Nat} (h7 : V.cell? ⟨a7, 0, none⟩ = some (.pointer (some ⟨rb, 0, none⟩)))
    (e0 : V.cell? ⟨a3, 0, none⟩ = some c0) (e1 : V.cell? ⟨a3, 1, none⟩ = some c1) (e2 : V.cell? ⟨a3, 2, none⟩ = some c2) (e3 : V.cell? ⟨a3, 3, none⟩ = some c3) :
    Calls Tryd.prog 24 #[.pointer (some ⟨rb, 0, none⟩), .func (.func 25) #[] #[.pointer (some ⟨a7, 0, none⟩), .pointer (some ⟨a3, 0, none⟩)]] V (WholePost rb B V (endOf fuel (ev inp n t [] (initSt fuel)))) := by
  have hb1 : Below V.heap.size V (V.alloc (.cells #[.pointer (some ⟨rb, 0, none⟩)] 49)) := (Below.refl _ _).alloc (Nat.le_refl _) _
  have hg1 := hg.below hb1
  have hrbl := hg.mutLt (k := rb) (.inl rfl)
  have aV := at_new (fun k hk => hg.apartLt hk) #[.pointer (some ⟨rb, 0, none⟩)] 49
  have HC := Lib.hid (run1_any hg1 (hin.stay (hg.stay (Evo.below hb1))) hwt (show (initSt fuel).left < n from hn) (cell_behind hb1 h7) (cell_behind hb1 e0) (cell_behind hb1 e1) (cell_behind hb1 e2) (cell_behind hb1 e3))
  have hR1 : Rest rb V (V.alloc (.cells #[.pointer (some ⟨rb, 0, none⟩)] 49)) := (Rest.refl _ _).alloc _
  have hmm : ∀ k, m0.mut rb k → k = rb ∨ V.heap.size ≤ k := fun k hk => .inl (m0_mut hk)
  generalize ev inp n t [] (initSt fuel) = o at *
  clear hg hin hwt hn hb1 hg1 h7 e0 e1 e2 e3
  go_enter_defers Tryd.func24, Tryd.ntmps24
  go_wp2_with fail
  refine HC.out.mono ?_
  -- what the closure finds
  have hfind : ∀ (s' : St) (m' : Mem) (V2 : World), Evo rb m0 m' (V.alloc (.cells #[.pointer (some ⟨rb, 0, none⟩)] 49)) V2 → Good rb B inp fuel s' m' V2 →
      V2.cell? ⟨V.heap.size, 0, none⟩ = some (.pointer (some ⟨rb, 0, none⟩)) ∧ (∃ x0 x1, V2.heap[rb]? = some (.cells #[x0, x1, .int .i64 0, .int .i64 0, m'.vo, .int .i64 ((fuel - s'.left : Nat) : Int)] 51 (0, 0))) ∧
      Rest rb V V2 ∧ V2.ownsRow B 3 1 m'.vo s'.out.length (s'.out.map (Value.int .i64)) ∧ m'.vo.ownBlock ≠ some rb := fun s' m' V2 hk hg' => by
    obtain ⟨Ai, ci, hr, _⟩ := hg'.run
    have hl := hg'.left
    refine ⟨at_cell0 (aV.evo hk) rfl, ⟨_, _, by rw [hr, show ((fuel - s'.left : Nat) : Int) = (fuel : Int) - s'.left by omega]⟩, hR1.evo hk hmm, hg'.out, hg'.rbo⟩
  -- how a store into the record leaves the row of ints
  have hrow : ∀ (V2 : World) (vo v : Value) (k o : Nat) (xs : List Value), V2.ownsRow B 3 1 vo k xs → vo.ownBlock ≠ some rb → (V2.setCell ⟨rb, o, none⟩ v).ownsRow B 3 1 vo k xs := fun V2 vo v k o xs h hne =>
    h.kept (row := some rb) ⟨rfl, rfl, rfl, by simp [World.setCell], fun i hi h => heap_set_ne (fun e => h (by rw [e])) _ _⟩ (.inr hne)
  have halo : ∀ (V2 : World) (o : Obj), rb < V2.heap.size → (V2.alloc o).heap[rb]? = V2.heap[rb]? := fun V2 o h => ((Below.refl V2.heap.size V2).alloc (Nat.le_refl _) o).block rb h
  intro en V2 h
  rcases h with ⟨v, s', m', rfl, rfl, hk, hg'⟩ | ⟨ch, rfl, hp⟩
  · obtain ⟨f1, ⟨x0, x1, f2⟩, f3, f4, f5⟩ := hfind s' m' V2 hk hg'
    have q2 : V2.cell? ⟨rb, 2, none⟩ = some (.int .i64 0) := by simp [World.cell?, f2]
    have z2 : V2.frozen? ⟨rb, 2, none⟩ = false := by simp [World.frozen?, f2]
    have HP := Lib.hid (show WholePost rb B V (endOf fuel (.val v, s')) (.returned (.tuple #[])) (V2.setCell ⟨rb, 2, none⟩ (.int .i64 1)) from
      ⟨rfl, f3.set _ _, x0, x1, m'.vo, by rw [heap_set_self f2]; rfl, hrow _ _ _ _ _ _ f4 f5⟩)
    clear hfind hrow halo hk hg' f3 f4 f5
    go_wp2_with fail
    refine leaves_cons (f := 36) (args := #[.pointer (some ⟨V.heap.size, 0, none⟩)]) (by simp) (by simp [go_sem]) ?_
    refine (whole1_idle _ rb (.nilIface) _ f1 q2 z2).mono ?_
    rintro e u' w'' ⟨rfl, rfl, rfl⟩
    simp [Leaves, settle, results, Tryd.results24, go_sem]
    exact HP.out
  · cases hp with
    | @raised v s' m' _ g _ hk hg' hv hkey hth =>
      obtain ⟨older, rfl, hold⟩ := hth
      obtain ⟨key, hkey⟩ := hkey
      obtain ⟨T, y, rfl⟩ := hv.shape
      obtain ⟨f1, ⟨x0, x1, f2⟩, f3, f4, f5⟩ := hfind s' m' V2 hk hg'
      have q2 : V2.cell? ⟨rb, 2, none⟩ = some (.int .i64 0) := by simp [World.cell?, f2]
      have z2 : V2.frozen? ⟨rb, 2, none⟩ = false := by simp [World.frozen?, f2]
      have q3 : V2.cell? ⟨rb, 3, none⟩ = some (.int .i64 0) := by simp [World.cell?, f2]
      have z3 : V2.frozen? ⟨rb, 3, none⟩ = false := by simp [World.frozen?, f2]
      have hv4 : RepV rb m' ((V2.setCell ⟨rb, 2, none⟩ (.int .i64 4)).alloc (.cells #[.iface T y] 81)) v (.iface T y) := (hv.evo (Evo.setCell V2 2 _ (.inl rfl))).evo (Evo.alloc _ _ _ _)
      have hK := (key_any hv4).mono (R' := fun e w' => e = .returned (.int .i64 key) ∧ (V2.setCell ⟨rb, 2, none⟩ (.int .i64 4)).alloc (.cells #[.iface T y] 81) = w') (by
        rintro e w' (⟨n, hn, rfl, rfl⟩ | ⟨hn, rfl, rfl⟩)
        · rw [hkey] at hn; cases hn; exact ⟨rfl, rfl⟩
        · rw [hkey] at hn; cases hn)
      have hrb2 : rb < V2.heap.size := (Array.getElem?_eq_some_iff.1 f2).1
      have hs1 : ((V2.setCell ⟨rb, 2, none⟩ (.int .i64 4)).alloc (.cells #[.iface T y] 81)).heap[rb]? = some (.cells #[x0, x1, .int .i64 4, .int .i64 0, m'.vo, .int .i64 ((fuel - s'.left : Nat) : Int)] 51 (0, 0)) := by
        rw [halo _ _ (by simpa [World.setCell] using hrb2), heap_set_self f2]; rfl
      have ho1 := (hrow _ _ (.int .i64 4) _ 2 _ f4 f5).alloc (.cells #[.iface T y] 81)
      have hr1 := (f3.set 2 (.int .i64 4)).alloc (.cells #[.iface T y] 81)
      refine leaves_cons (f := 36) (args := #[.pointer (some ⟨V.heap.size, 0, none⟩)]) (by simp) (by simp [go_sem]) ?_
      refine (whole1_raised _ rb key T y older _ f1 q2 z2 q3 z3 (by omega) hK).mono ?_
      rintro e u' w'' ⟨rfl, rfl, rfl⟩
      show Leaves _ _ _ _ [] (settle _) _
      rw [settle_thrown hold]
      by_cases hk0 : 0 ≤ key
      · have he : endOf fuel (.raised v, s') = ⟨2, key, s'.out, fuel - s'.left⟩ := by simp [endOf, hkey, hk0]
        rw [if_pos hk0, he]
        simp only [Leaves, results, Tryd.results24]
        refine ⟨.tuple #[], by simp, rfl, (hr1.set _ _).set _ _, x0, x1, m'.vo, ?_, hrow _ _ _ _ _ _ (hrow _ _ _ _ _ _ ho1 f5) f5⟩
        have h2 := heap_set_self hs1 2 (.int .i64 2)
        rw [heap_set_self h2]
        rfl
      · have he : endOf fuel (.raised v, s') = ⟨4, 0, s'.out, fuel - s'.left⟩ := by simp [endOf, hkey, hk0]
        rw [if_neg hk0, he]
        simp only [Leaves, results, Tryd.results24]
        exact ⟨.tuple #[], by simp, rfl, hr1, x0, x1, m'.vo, hs1, ho1⟩
    | @stuck s' m' _ _ hk hg' hth =>
      obtain ⟨older, rfl, hold⟩ := hth
      obtain ⟨f1, ⟨x0, x1, f2⟩, f3, f4, f5⟩ := hfind s' m' V2 hk hg'
      have q2 : V2.cell? ⟨rb, 2, none⟩ = some (.int .i64 0) := by simp [World.cell?, f2]
      have z2 : V2.frozen? ⟨rb, 2, none⟩ = false := by simp [World.frozen?, f2]
      refine leaves_cons (f := 36) (args := #[.pointer (some ⟨V.heap.size, 0, none⟩)]) (by simp) (by simp [go_sem]) ?_
      refine (whole1_stop _ rb 4 older _ f1 q2 z2).mono ?_
      rintro e u' w'' ⟨rfl, rfl, rfl⟩
      show Leaves _ _ _ _ [] (settle _) _
      rw [settle_thrown hold]
      simp only [Leaves, results, Tryd.results24]
      refine ⟨.tuple #[], by simp, rfl, (f3.alloc _).set _ _, x0, x1, m'.vo, ?_, hrow _ _ _ _ _ _ (f4.alloc _) f5⟩
      rw [heap_set_self ((halo V2 _ (Array.getElem?_eq_some_iff.1 f2).1).trans f2)]; rfl
    | @cut s' m' _ _ hk hg' hth =>
      obtain ⟨older, rfl, hold⟩ := hth
      obtain ⟨f1, ⟨x0, x1, f2⟩, f3, f4, f5⟩ := hfind s' m' V2 hk hg'
      have q2 : V2.cell? ⟨rb, 2, none⟩ = some (.int .i64 0) := by simp [World.cell?, f2]
      have z2 : V2.frozen? ⟨rb, 2, none⟩ = false := by simp [World.frozen?, f2]
      refine leaves_cons (f := 36) (args := #[.pointer (some ⟨V.heap.size, 0, none⟩)]) (by simp) (by simp [go_sem]) ?_
      refine (whole1_stop _ rb 3 older _ f1 q2 z2).mono ?_
      rintro e u' w'' ⟨rfl, rfl, rfl⟩
      show Leaves _ _ _ _ [] (settle _) _
      rw [settle_thrown hold]
      simp only [Leaves, results, Tryd.results24]
      refine ⟨.tuple #[], by simp, rfl, (f3.alloc _).set _ _, x0, x1, m'.vo, ?_, hrow _ _ _ _ _ _ (f4.alloc _) f5⟩
      rw [heap_set_self ((halo V2 _ (Array.getElem?_eq_some_iff.1 f2).1).trans f2)]; rfl
end Go.Proofs.YtnolhcdfknjncaaDoor
