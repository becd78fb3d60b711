/-
  3 texts of this seat in one: PU2 PA3 PK2.
-/
import Derived.Test.YtllakbiipdcboaaDoorQA8
import Derived.Test.YtllakbiipdcboaaDoorQA6
import Derived.Test.YtllakbiipdcboaaDoorQA3
import Derived.Test.YtllakbiipdcboaaDoorQA2
/-
  The evaluator of terms: all of a run.
-/
set_option linter.unusedVariables false
set_option linter.unusedSimpArgs false
namespace Go.Proofs.YtllakbiipdcboaaDoor
open Go.RowKit

/-- how the function ends that is handed over -/
def AllPost (rb B : Nat) (p : FlatP) (inp : List Int) (fuel : Nat) (V : World) (o : FOut) (en : Ending) (V' : World) : Prop :=
  (∃ v s' m', o = (.val v, s') ∧ en = .returned (.tuple #[]) ∧ Evo rb m0 m' V V' ∧ Good rb B p inp fuel s' m' V') ∨ (∃ ch, en = .panicked ch ∧ EvPost rb B p inp fuel m0 V o (.panicked ch) V')

theorem run1_any {rb B : Nat} {p : FlatP} {inp : List Int} {fuel n : Nat} {s : FSt} {V : World} (hg : Good rb B p inp fuel s m0 V) {t : Anf} {c0 c1 c2 : Value} (hin : BodyIn B V t #[c0, c1, c2]) (hwt : WfA p.funs.length t) (hn : s.left < n) {a7 a3 : Nat} (h7 : V.cell? ⟨a7, 0, none⟩ = some (.pointer (some ⟨rb, 0, none⟩)))
    (e0 : V.cell? ⟨a3, 0, none⟩ = some c0) (e1 : V.cell? ⟨a3, 1, none⟩ = some c1) (e2 : V.cell? ⟨a3, 2, none⟩ = some c2) :
    Calls Tryd.prog 19 #[.pointer (some ⟨a7, 0, none⟩), .pointer (some ⟨a3, 0, none⟩)] V (AllPost rb B p inp fuel V (evF p.funs inp n t [] s)) := by
  have HC := Lib.hid ((term_ok rb B p inp fuel n t [] s m0 V _ (.pointer none) hin hwt .nil hg hn))
  clear hg hin hwt hn
  generalize evF p.funs inp n t [] s = o at *
  go_enter Tryd.func19, Tryd.ntmps19
  go_wp2_with fail
  refine HC.out.mono ?_
  intro en w' h
  rcases h.inv with ⟨v, s', m', T, x, h1, rfl, h3, h4, _⟩ | ⟨ch, rfl, h2, h3, _⟩
  · go_wp2_with fail
    go_end0
    exact .inl ⟨v, s', m', h1, rfl, h3, h4⟩
  · exact ⟨rfl, .inr ⟨ch, rfl, h3⟩⟩

set_option maxRecDepth 100000 in
set_option maxHeartbeats 2000000 in
theorem whole_any {rb B : Nat} {p : FlatP} {inp : List Int} {fuel n : Nat} {V : World} (hg : Good rb B p inp fuel (initF fuel) m0 V) {t : Anf} {c0 c1 c2 : Value} (hin : BodyIn B V t #[c0, c1, c2]) (hwt : WfA p.funs.length t) (hn : fuel < n) {a7 a3 : Nat} (h7 : V.cell? ⟨a7, 0, none⟩ = some (.pointer (some ⟨rb, 0, none⟩)))
    (e0 : V.cell? ⟨a3, 0, none⟩ = some c0) (e1 : V.cell? ⟨a3, 1, none⟩ = some c1) (e2 : V.cell? ⟨a3, 2, none⟩ = some c2) :
    Calls Tryd.prog 18 #[.pointer (some ⟨rb, 0, none⟩), .func (.func 19) #[] #[.pointer (some ⟨a7, 0, none⟩), .pointer (some ⟨a3, 0, none⟩)]] V (WholePost rb B V (endF fuel (evF p.funs inp n t [] (initF fuel)))) := by
  have hb1 : Below V.heap.size V (V.alloc (.cells #[.pointer (some ⟨rb, 0, none⟩)] 53)) := (Below.refl _ _).alloc (Nat.le_refl _) _
  have hg1 := hg.below hb1
  have hrbl := hg.mutLt (k := rb) (.inl rfl)
  have aV := at_new (fun k hk => hg.mutLt hk) #[.pointer (some ⟨rb, 0, none⟩)] 53
  have HC := Lib.hid (run1_any hg1 (hin.kept (hg.stay (Evo.below hb1))) hwt (show (initF fuel).left < n from hn) (cell_behind hb1 h7) (cell_behind hb1 e0) (cell_behind hb1 e1) (cell_behind hb1 e2))
  have hR1 : Rest rb V (V.alloc (.cells #[.pointer (some ⟨rb, 0, none⟩)] 53)) := (Rest.refl _ _).alloc _
  have hmm : ∀ k, m0.mut rb k → k = rb ∨ V.heap.size ≤ k := fun k hk => .inl (m0_mut hk)
  generalize evF p.funs inp n t [] (initF fuel) = o at *
  clear hg hin hwt hn hb1 hg1 h7 e0 e1 e2
  go_enter_defers Tryd.func18, Tryd.ntmps18
  go_wp2_with fail
  refine HC.out.mono ?_
  -- what the closure finds
  have hfind : ∀ (s' : FSt) (m' : Mem) (V2 : World), Evo rb m0 m' (V.alloc (.cells #[.pointer (some ⟨rb, 0, none⟩)] 53)) V2 → Good rb B p inp fuel s' m' V2 →
      V2.cell? ⟨V.heap.size, 0, none⟩ = some (.pointer (some ⟨rb, 0, none⟩)) ∧ (∃ x0 x1, V2.heap[rb]? = some (.cells #[x0, x1, .int .i64 0, .int .i64 0, m'.vo, .int .i64 ((fuel - s'.left : Nat) : Int)] 55 (0, 0))) ∧
      Rest rb V V2 ∧ V2.ownsRow B 3 1 m'.vo s'.out.length (s'.out.map (Value.int .i64)) ∧ m'.vo.ownBlock ≠ some rb := fun s' m' V2 hk hg' => by
    obtain ⟨Ai, ci, hr, _⟩ := hg'.run
    have hl := hg'.left
    refine ⟨at_cell0 (aV.evo hk) rfl, ⟨_, _, by rw [hr, show ((fuel - s'.left : Nat) : Int) = (fuel : Int) - s'.left by omega]⟩, hR1.evo hk hmm, hg'.out, hg'.rbo⟩
  -- how a store into the record leaves the row of ints
  have hrow : ∀ (V2 : World) (vo v : Value) (k o : Nat) (xs : List Value), V2.ownsRow B 3 1 vo k xs → vo.ownBlock ≠ some rb → (V2.setCell ⟨rb, o, none⟩ v).ownsRow B 3 1 vo k xs := fun V2 vo v k o xs h hne =>
    h.kept (row := some rb) ⟨rfl, rfl, rfl, by simp [World.setCell], fun i hi h => heap_set_ne (fun e => h (by rw [e])) _ _⟩ (.inr hne)
  have halo : ∀ (V2 : World) (o : Obj), rb < V2.heap.size → (V2.alloc o).heap[rb]? = V2.heap[rb]? := fun V2 o h => ((Below.refl V2.heap.size V2).alloc (Nat.le_refl _) o).block rb h
  intro en V2 h
  rcases h with ⟨v, s', m', rfl, rfl, hk, hg'⟩ | ⟨ch, rfl, hp⟩
  · obtain ⟨f1, ⟨x0, x1, f2⟩, f3, f4, f5⟩ := hfind s' m' V2 hk hg'
    have q2 : V2.cell? ⟨rb, 2, none⟩ = some (.int .i64 0) := by simp [World.cell?, f2]
    have z2 : V2.frozen? ⟨rb, 2, none⟩ = false := by simp [World.frozen?, f2]
    have HP := Lib.hid (show WholePost rb B V (endF fuel (.val v, s')) (.returned (.tuple #[])) (V2.setCell ⟨rb, 2, none⟩ (.int .i64 1)) from
      ⟨rfl, f3.set _ _, x0, x1, m'.vo, by rw [heap_set_self f2]; rfl, hrow _ _ _ _ _ _ f4 f5⟩)
    clear hfind hrow halo hk hg' f3 f4 f5
    go_wp2_with fail
    refine leaves_cons (f := 24) (args := #[.pointer (some ⟨V.heap.size, 0, none⟩)]) (by simp) (by simp [go_sem]) ?_
    refine (whole1_idle _ rb (.nilIface) _ f1 q2 z2).mono ?_
    rintro e u' w'' ⟨rfl, rfl, rfl⟩
    simp [Leaves, settle, results, Tryd.results18, go_sem]
    exact HP.out
  · cases hp with
    | @raised v s' m' _ g _ hk hg' hv hkey hth =>
      obtain ⟨older, rfl, hold⟩ := hth
      obtain ⟨key, hkey⟩ := hkey
      obtain ⟨T, y, rfl⟩ := hv.shape
      obtain ⟨f1, ⟨x0, x1, f2⟩, f3, f4, f5⟩ := hfind s' m' V2 hk hg'
      have q2 : V2.cell? ⟨rb, 2, none⟩ = some (.int .i64 0) := by simp [World.cell?, f2]
      have z2 : V2.frozen? ⟨rb, 2, none⟩ = false := by simp [World.frozen?, f2]
      have q3 : V2.cell? ⟨rb, 3, none⟩ = some (.int .i64 0) := by simp [World.cell?, f2]
      have z3 : V2.frozen? ⟨rb, 3, none⟩ = false := by simp [World.frozen?, f2]
      have hv4 : RepV rb m' ((V2.setCell ⟨rb, 2, none⟩ (.int .i64 4)).alloc (.cells #[.iface T y] 70)) v (.iface T y) := (hv.evo (Evo.setCell V2 2 _ (.inl rfl))).evo (Evo.alloc _ _ _ _)
      have hK := (key_any hv4).mono (R' := fun e w' => e = .returned (.int .i64 key) ∧ (V2.setCell ⟨rb, 2, none⟩ (.int .i64 4)).alloc (.cells #[.iface T y] 70) = w') (by
        rintro e w' (⟨n, hn, rfl, rfl⟩ | ⟨hn, rfl, rfl⟩)
        · rw [hkey] at hn; cases hn; exact ⟨rfl, rfl⟩
        · rw [hkey] at hn; cases hn)
      have hrb2 : rb < V2.heap.size := (Array.getElem?_eq_some_iff.1 f2).1
      have hs1 : ((V2.setCell ⟨rb, 2, none⟩ (.int .i64 4)).alloc (.cells #[.iface T y] 70)).heap[rb]? = some (.cells #[x0, x1, .int .i64 4, .int .i64 0, m'.vo, .int .i64 ((fuel - s'.left : Nat) : Int)] 55 (0, 0)) := by
        rw [halo _ _ (by simpa [World.setCell] using hrb2), heap_set_self f2]; rfl
      have ho1 := (hrow _ _ (.int .i64 4) _ 2 _ f4 f5).alloc (.cells #[.iface T y] 70)
      have hr1 := (f3.set 2 (.int .i64 4)).alloc (.cells #[.iface T y] 70)
      refine leaves_cons (f := 24) (args := #[.pointer (some ⟨V.heap.size, 0, none⟩)]) (by simp) (by simp [go_sem]) ?_
      refine (whole1_raised _ rb key T y older _ f1 q2 z2 q3 z3 (by omega) hK).mono ?_
      rintro e u' w'' ⟨rfl, rfl, rfl⟩
      show Leaves _ _ _ _ [] (settle _) _
      rw [settle_thrown hold]
      by_cases hk0 : 0 ≤ key
      · have he : endF fuel (.raised v, s') = ⟨2, key, s'.out, fuel - s'.left⟩ := by simp [endF, hkey, hk0]
        rw [if_pos hk0, he]
        simp only [Leaves, results, Tryd.results18]
        refine ⟨.tuple #[], by simp, rfl, (hr1.set _ _).set _ _, x0, x1, m'.vo, ?_, hrow _ _ _ _ _ _ (hrow _ _ _ _ _ _ ho1 f5) f5⟩
        have h2 := heap_set_self hs1 2 (.int .i64 2)
        rw [heap_set_self h2]
        rfl
      · have he : endF fuel (.raised v, s') = ⟨4, 0, s'.out, fuel - s'.left⟩ := by simp [endF, hkey, hk0]
        rw [if_neg hk0, he]
        simp only [Leaves, results, Tryd.results18]
        exact ⟨.tuple #[], by simp, rfl, hr1, x0, x1, m'.vo, hs1, ho1⟩
    | @stuck s' m' _ _ hk hg' hth =>
      obtain ⟨older, rfl, hold⟩ := hth
      obtain ⟨f1, ⟨x0, x1, f2⟩, f3, f4, f5⟩ := hfind s' m' V2 hk hg'
      have q2 : V2.cell? ⟨rb, 2, none⟩ = some (.int .i64 0) := by simp [World.cell?, f2]
      have z2 : V2.frozen? ⟨rb, 2, none⟩ = false := by simp [World.frozen?, f2]
      refine leaves_cons (f := 24) (args := #[.pointer (some ⟨V.heap.size, 0, none⟩)]) (by simp) (by simp [go_sem]) ?_
      refine (whole1_stop _ rb 4 older _ f1 q2 z2).mono ?_
      rintro e u' w'' ⟨rfl, rfl, rfl⟩
      show Leaves _ _ _ _ [] (settle _) _
      rw [settle_thrown hold]
      simp only [Leaves, results, Tryd.results18]
      refine ⟨.tuple #[], by simp, rfl, (f3.alloc _).set _ _, x0, x1, m'.vo, ?_, hrow _ _ _ _ _ _ (f4.alloc _) f5⟩
      rw [heap_set_self ((halo V2 _ (Array.getElem?_eq_some_iff.1 f2).1).trans f2)]; rfl
    | @cut s' m' _ _ hk hg' hth =>
      obtain ⟨older, rfl, hold⟩ := hth
      obtain ⟨f1, ⟨x0, x1, f2⟩, f3, f4, f5⟩ := hfind s' m' V2 hk hg'
      have q2 : V2.cell? ⟨rb, 2, none⟩ = some (.int .i64 0) := by simp [World.cell?, f2]
      have z2 : V2.frozen? ⟨rb, 2, none⟩ = false := by simp [World.frozen?, f2]
      refine leaves_cons (f := 24) (args := #[.pointer (some ⟨V.heap.size, 0, none⟩)]) (by simp) (by simp [go_sem]) ?_
      refine (whole1_stop _ rb 3 older _ f1 q2 z2).mono ?_
      rintro e u' w'' ⟨rfl, rfl, rfl⟩
      show Leaves _ _ _ _ [] (settle _) _
      rw [settle_thrown hold]
      simp only [Leaves, results, Tryd.results18]
      refine ⟨.tuple #[], by simp, rfl, (f3.alloc _).set _ _, x0, x1, m'.vo, ?_, hrow _ _ _ _ _ _ (f4.alloc _) f5⟩
      rw [heap_set_self ((halo V2 _ (Array.getElem?_eq_some_iff.1 f2).1).trans f2)]; rfl
end Go.Proofs.YtllakbiipdcboaaDoor

/-
  anf: counts, functions.
-/
set_option linter.unusedVariables false
set_option linter.unusedSimpArgs false
namespace Go.Proofs.YtllakbiipdcboaaDoor
open Go.RowKit

/-- the table of kinds in memory -/
def shapesL : List (Int × Int) := [(0, 0), (1, 0), (-1, 0), (-1, 0), (1, 0), (0, 1), (2, 0), (0, -1), (1, -1)]
structure ShapesIn (B : Nat) (w : World) : Prop where
  lt : 0 < B
  w0 : ∀ i, i < 9 → ∃ s, w.cell? ⟨0, i * 3, none⟩ = some (.string s)
  w1 : ∀ i, i < 9 → w.cell? ⟨0, i * 3 + 1, none⟩ = some (.int .i64 (shapesL[i]?.getD default).1)
  w2 : ∀ i, i < 9 → w.cell? ⟨0, i * 3 + 2, none⟩ = some (.int .i64 (shapesL[i]?.getD default).2)
theorem ShapesIn.kept {B : Nat} {w w' : World} (h : ShapesIn B w) (hb : Below B w w') : ShapesIn B w' :=
  ⟨h.lt, fun i hi => by obtain ⟨s, hs⟩ := h.w0 i hi; exact ⟨s, (hb.cell (p := ⟨_, _, none⟩) h.lt).trans hs⟩, fun i hi => (hb.cell (p := ⟨_, _, none⟩) h.lt).trans (h.w1 i hi), fun i hi => (hb.cell (p := ⟨_, _, none⟩) h.lt).trans (h.w2 i hi)⟩
section
variable (n : Int) (Aa Ak Al : Option Addr) (na ca nk ck nb cb : Nat) (w : World)
set_option maxRecDepth 100000 in
set_option maxHeartbeats 2000000 in
theorem counts_1 (ht : ShapesIn w.heap.size w) (hl : nk * 8 ≤ 140737488351232) (hl2 : na * 8 ≤ 140737488351232 ∧ nb * 8 ≤ 140737488351232) : Calls Tryd.prog 37 #[.agg #[.int .i64 1, .int .i64 n, .slice Aa na ca, .slice Ak nk ck, .slice Al nb cb]] w fun e w' => e = .returned (.bool (countB 1 n na nk nb)) ∧ Below w.heap.size w w' := by
  obtain ⟨W0, hW0⟩ : ∃ W0, w.alloc (.cells #[.int .i64 1, .int .i64 n, .slice Aa na ca, .slice Ak nk ck, .slice Al nb cb] 43) = W0 := ⟨_, rfl⟩
  have hb0 : Below w.heap.size w W0 := by rw [← hW0]; exact (Below.refl _ _).alloc (Nat.le_refl _) _
  have hR : RhsAt w W0 w.heap.size 1 n Aa Ak Al na ca nk ck nb cb := by rw [← hW0]; exact RhsAt.new _ _ _ _ _ _ _ _ _ _ _ _
  obtain ⟨sv, hsv⟩ := ht.w0 1 (by decide)
  have s0 : W0.cell? ⟨0, 3, none⟩ = some (.string sv) := (hb0.cell (p := ⟨_, _, none⟩) ht.lt).trans hsv
  have s1 : W0.cell? ⟨0, 4, none⟩ = some (.int .i64 1) := (hb0.cell (p := ⟨_, _, none⟩) ht.lt).trans (ht.w1 1 (by decide))
  have s2 : W0.cell? ⟨0, 5, none⟩ = some (.int .i64 0) := (hb0.cell (p := ⟨_, _, none⟩) ht.lt).trans (ht.w2 1 (by decide))
  have hb1 : Below W0.heap.size W0 (W0.alloc (.cells #[.string sv, .int .i64 1, .int .i64 0] 105)) := (Below.refl _ _).alloc (Nat.le_refl _) _
  obtain ⟨c0, c1, c2, c3, c4, cl⟩ := hR.behind hb1
  have k0 := hR.c0
  have q1 : (W0.alloc (.cells #[.string sv, .int .i64 1, .int .i64 0] 105)).cell? ⟨W0.heap.size, 1, none⟩ = some (.int .i64 1) := by rw [World.cell?_alloc_at _ _ _ _ rfl]; rfl
  have q2 : (W0.alloc (.cells #[.string sv, .int .i64 1, .int .i64 0] 105)).cell? ⟨W0.heap.size, 2, none⟩ = some (.int .i64 0) := by rw [World.cell?_alloc_at _ _ _ _ rfl]; rfl
  have HB := Lib.hid (hb0.trans (hb1.mono hb0.size))
  have hw1 : IntKind.i64.wrap ((nk : Int) + 1) = (nk : Int) + 1 := by rw [IntKind.wrap_i64]; omega
  have hw2 : IntKind.i64.wrap (2 * (nb : Int)) = 2 * (nb : Int) := by rw [IntKind.wrap_i64]; omega
  obtain ⟨out, hout⟩ : ∃ o, countB 1 n na nk nb = o := ⟨_, rfl⟩
  rw [hout]
  have HO := Lib.hid hout
  clear hout ht hsv hR hb0 hb1 hl hl2
  cases ha : ((na : Int) == 1)
  · have HV := Lib.hid (show out = false from HO.out.symm.trans (by have h1 := ha;  simp at h1; rw [Bool.eq_false_iff]; intro h; simp [countB] at h; omega))
    go_enter Tryd.func37, Tryd.ntmps37
    go_wp2_with fail
    go_quiet (fail)
    go_wp2_with fail
    go_ret
    exact ⟨ret_bool (HV.out.symm), below_drewN HB.out _⟩
  · cases hb : ((nb : Int) == 0)
    · have HV := Lib.hid (show out = false from HO.out.symm.trans (by have h1 := ha; have h2 := hb;  simp at h1 h2; rw [Bool.eq_false_iff]; intro h; simp [countB] at h; omega))
      go_enter Tryd.func37, Tryd.ntmps37
      go_wp2_with fail
      go_quiet (fail)
      go_wp2_with fail
      go_ret
      exact ⟨ret_bool (HV.out.symm), below_drewN HB.out _⟩
    · have HV := Lib.hid (show ((nk : Int) == 0) = out from HO.out.symm ▸ (by have h1 := ha; have h2 := hb;  simp at h1 h2; rw [Bool.eq_iff_iff]; simp [countB]; omega))
      go_enter Tryd.func37, Tryd.ntmps37
      go_wp2_with fail
      go_quiet (fail)
      go_wp2_with fail
      go_ret
      exact ⟨ret_bool (HV.out), below_drewN HB.out _⟩
set_option maxRecDepth 100000 in
set_option maxHeartbeats 2000000 in
theorem counts_4 (ht : ShapesIn w.heap.size w) (hl : nk * 8 ≤ 140737488351232) (hl2 : na * 8 ≤ 140737488351232 ∧ nb * 8 ≤ 140737488351232) : Calls Tryd.prog 37 #[.agg #[.int .i64 4, .int .i64 n, .slice Aa na ca, .slice Ak nk ck, .slice Al nb cb]] w fun e w' => e = .returned (.bool (countB 4 n na nk nb)) ∧ Below w.heap.size w w' := by
  obtain ⟨W0, hW0⟩ : ∃ W0, w.alloc (.cells #[.int .i64 4, .int .i64 n, .slice Aa na ca, .slice Ak nk ck, .slice Al nb cb] 43) = W0 := ⟨_, rfl⟩
  have hb0 : Below w.heap.size w W0 := by rw [← hW0]; exact (Below.refl _ _).alloc (Nat.le_refl _) _
  have hR : RhsAt w W0 w.heap.size 4 n Aa Ak Al na ca nk ck nb cb := by rw [← hW0]; exact RhsAt.new _ _ _ _ _ _ _ _ _ _ _ _
  obtain ⟨sv, hsv⟩ := ht.w0 4 (by decide)
  have s0 : W0.cell? ⟨0, 12, none⟩ = some (.string sv) := (hb0.cell (p := ⟨_, _, none⟩) ht.lt).trans hsv
  have s1 : W0.cell? ⟨0, 13, none⟩ = some (.int .i64 1) := (hb0.cell (p := ⟨_, _, none⟩) ht.lt).trans (ht.w1 4 (by decide))
  have s2 : W0.cell? ⟨0, 14, none⟩ = some (.int .i64 0) := (hb0.cell (p := ⟨_, _, none⟩) ht.lt).trans (ht.w2 4 (by decide))
  have hb1 : Below W0.heap.size W0 (W0.alloc (.cells #[.string sv, .int .i64 1, .int .i64 0] 105)) := (Below.refl _ _).alloc (Nat.le_refl _) _
  obtain ⟨c0, c1, c2, c3, c4, cl⟩ := hR.behind hb1
  have k0 := hR.c0
  have q1 : (W0.alloc (.cells #[.string sv, .int .i64 1, .int .i64 0] 105)).cell? ⟨W0.heap.size, 1, none⟩ = some (.int .i64 1) := by rw [World.cell?_alloc_at _ _ _ _ rfl]; rfl
  have q2 : (W0.alloc (.cells #[.string sv, .int .i64 1, .int .i64 0] 105)).cell? ⟨W0.heap.size, 2, none⟩ = some (.int .i64 0) := by rw [World.cell?_alloc_at _ _ _ _ rfl]; rfl
  have HB := Lib.hid (hb0.trans (hb1.mono hb0.size))
  have hw1 : IntKind.i64.wrap ((nk : Int) + 1) = (nk : Int) + 1 := by rw [IntKind.wrap_i64]; omega
  have hw2 : IntKind.i64.wrap (2 * (nb : Int)) = 2 * (nb : Int) := by rw [IntKind.wrap_i64]; omega
  obtain ⟨out, hout⟩ : ∃ o, countB 4 n na nk nb = o := ⟨_, rfl⟩
  rw [hout]
  have HO := Lib.hid hout
  clear hout ht hsv hR hb0 hb1 hl hl2
  cases ha : ((na : Int) == 1)
  · have HV := Lib.hid (show out = false from HO.out.symm.trans (by have h1 := ha;  simp at h1; rw [Bool.eq_false_iff]; intro h; simp [countB] at h; omega))
    go_enter Tryd.func37, Tryd.ntmps37
    go_wp2_with fail
    go_quiet (fail)
    go_wp2_with fail
    go_ret
    exact ⟨ret_bool (HV.out.symm), below_drewN HB.out _⟩
  · cases hb : ((nb : Int) == 0)
    · have HV := Lib.hid (show out = false from HO.out.symm.trans (by have h1 := ha; have h2 := hb;  simp at h1 h2; rw [Bool.eq_false_iff]; intro h; simp [countB] at h; omega))
      go_enter Tryd.func37, Tryd.ntmps37
      go_wp2_with fail
      go_quiet (fail)
      go_wp2_with fail
      go_ret
      exact ⟨ret_bool (HV.out.symm), below_drewN HB.out _⟩
    · have HV := Lib.hid (show ((nk : Int) == 0) = out from HO.out.symm ▸ (by have h1 := ha; have h2 := hb;  simp at h1 h2; rw [Bool.eq_iff_iff]; simp [countB]; omega))
      go_enter Tryd.func37, Tryd.ntmps37
      go_wp2_with fail
      go_quiet (fail)
      go_wp2_with fail
      go_ret
      exact ⟨ret_bool (HV.out), below_drewN HB.out _⟩
set_option maxRecDepth 100000 in
set_option maxHeartbeats 2000000 in
theorem counts_5 (ht : ShapesIn w.heap.size w) (hl : nk * 8 ≤ 140737488351232) (hl2 : na * 8 ≤ 140737488351232 ∧ nb * 8 ≤ 140737488351232) : Calls Tryd.prog 37 #[.agg #[.int .i64 5, .int .i64 n, .slice Aa na ca, .slice Ak nk ck, .slice Al nb cb]] w fun e w' => e = .returned (.bool (countB 5 n na nk nb)) ∧ Below w.heap.size w w' := by
  obtain ⟨W0, hW0⟩ : ∃ W0, w.alloc (.cells #[.int .i64 5, .int .i64 n, .slice Aa na ca, .slice Ak nk ck, .slice Al nb cb] 43) = W0 := ⟨_, rfl⟩
  have hb0 : Below w.heap.size w W0 := by rw [← hW0]; exact (Below.refl _ _).alloc (Nat.le_refl _) _
  have hR : RhsAt w W0 w.heap.size 5 n Aa Ak Al na ca nk ck nb cb := by rw [← hW0]; exact RhsAt.new _ _ _ _ _ _ _ _ _ _ _ _
  obtain ⟨sv, hsv⟩ := ht.w0 5 (by decide)
  have s0 : W0.cell? ⟨0, 15, none⟩ = some (.string sv) := (hb0.cell (p := ⟨_, _, none⟩) ht.lt).trans hsv
  have s1 : W0.cell? ⟨0, 16, none⟩ = some (.int .i64 0) := (hb0.cell (p := ⟨_, _, none⟩) ht.lt).trans (ht.w1 5 (by decide))
  have s2 : W0.cell? ⟨0, 17, none⟩ = some (.int .i64 1) := (hb0.cell (p := ⟨_, _, none⟩) ht.lt).trans (ht.w2 5 (by decide))
  have hb1 : Below W0.heap.size W0 (W0.alloc (.cells #[.string sv, .int .i64 0, .int .i64 1] 105)) := (Below.refl _ _).alloc (Nat.le_refl _) _
  obtain ⟨c0, c1, c2, c3, c4, cl⟩ := hR.behind hb1
  have k0 := hR.c0
  have q1 : (W0.alloc (.cells #[.string sv, .int .i64 0, .int .i64 1] 105)).cell? ⟨W0.heap.size, 1, none⟩ = some (.int .i64 0) := by rw [World.cell?_alloc_at _ _ _ _ rfl]; rfl
  have q2 : (W0.alloc (.cells #[.string sv, .int .i64 0, .int .i64 1] 105)).cell? ⟨W0.heap.size, 2, none⟩ = some (.int .i64 1) := by rw [World.cell?_alloc_at _ _ _ _ rfl]; rfl
  have HB := Lib.hid (hb0.trans (hb1.mono hb0.size))
  have hw1 : IntKind.i64.wrap ((nk : Int) + 1) = (nk : Int) + 1 := by rw [IntKind.wrap_i64]; omega
  have hw2 : IntKind.i64.wrap (2 * (nb : Int)) = 2 * (nb : Int) := by rw [IntKind.wrap_i64]; omega
  obtain ⟨out, hout⟩ : ∃ o, countB 5 n na nk nb = o := ⟨_, rfl⟩
  rw [hout]
  have HO := Lib.hid hout
  clear hout ht hsv hR hb0 hb1 hl hl2
  cases ha : ((na : Int) == 0)
  · have HV := Lib.hid (show out = false from HO.out.symm.trans (by have h1 := ha;  simp at h1; rw [Bool.eq_false_iff]; intro h; simp [countB] at h; omega))
    go_enter Tryd.func37, Tryd.ntmps37
    go_wp2_with fail
    go_quiet (fail)
    go_wp2_with fail
    go_ret
    exact ⟨ret_bool (HV.out.symm), below_drewN HB.out _⟩
  · cases hb : ((nb : Int) == 1)
    · have HV := Lib.hid (show out = false from HO.out.symm.trans (by have h1 := ha; have h2 := hb;  simp at h1 h2; rw [Bool.eq_false_iff]; intro h; simp [countB] at h; omega))
      go_enter Tryd.func37, Tryd.ntmps37
      go_wp2_with fail
      go_quiet (fail)
      go_wp2_with fail
      go_ret
      exact ⟨ret_bool (HV.out.symm), below_drewN HB.out _⟩
    · have HV := Lib.hid (show ((nk : Int) == 0) = out from HO.out.symm ▸ (by have h1 := ha; have h2 := hb;  simp at h1 h2; rw [Bool.eq_iff_iff]; simp [countB]; omega))
      go_enter Tryd.func37, Tryd.ntmps37
      go_wp2_with fail
      go_quiet (fail)
      go_wp2_with fail
      go_ret
      exact ⟨ret_bool (HV.out), below_drewN HB.out _⟩
set_option maxRecDepth 100000 in
set_option maxHeartbeats 2000000 in
theorem counts_6 (ht : ShapesIn w.heap.size w) (hl : nk * 8 ≤ 140737488351232) (hl2 : na * 8 ≤ 140737488351232 ∧ nb * 8 ≤ 140737488351232) : Calls Tryd.prog 37 #[.agg #[.int .i64 6, .int .i64 n, .slice Aa na ca, .slice Ak nk ck, .slice Al nb cb]] w fun e w' => e = .returned (.bool (countB 6 n na nk nb)) ∧ Below w.heap.size w w' := by
  obtain ⟨W0, hW0⟩ : ∃ W0, w.alloc (.cells #[.int .i64 6, .int .i64 n, .slice Aa na ca, .slice Ak nk ck, .slice Al nb cb] 43) = W0 := ⟨_, rfl⟩
  have hb0 : Below w.heap.size w W0 := by rw [← hW0]; exact (Below.refl _ _).alloc (Nat.le_refl _) _
  have hR : RhsAt w W0 w.heap.size 6 n Aa Ak Al na ca nk ck nb cb := by rw [← hW0]; exact RhsAt.new _ _ _ _ _ _ _ _ _ _ _ _
  obtain ⟨sv, hsv⟩ := ht.w0 6 (by decide)
  have s0 : W0.cell? ⟨0, 18, none⟩ = some (.string sv) := (hb0.cell (p := ⟨_, _, none⟩) ht.lt).trans hsv
  have s1 : W0.cell? ⟨0, 19, none⟩ = some (.int .i64 2) := (hb0.cell (p := ⟨_, _, none⟩) ht.lt).trans (ht.w1 6 (by decide))
  have s2 : W0.cell? ⟨0, 20, none⟩ = some (.int .i64 0) := (hb0.cell (p := ⟨_, _, none⟩) ht.lt).trans (ht.w2 6 (by decide))
  have hb1 : Below W0.heap.size W0 (W0.alloc (.cells #[.string sv, .int .i64 2, .int .i64 0] 105)) := (Below.refl _ _).alloc (Nat.le_refl _) _
  obtain ⟨c0, c1, c2, c3, c4, cl⟩ := hR.behind hb1
  have k0 := hR.c0
  have q1 : (W0.alloc (.cells #[.string sv, .int .i64 2, .int .i64 0] 105)).cell? ⟨W0.heap.size, 1, none⟩ = some (.int .i64 2) := by rw [World.cell?_alloc_at _ _ _ _ rfl]; rfl
  have q2 : (W0.alloc (.cells #[.string sv, .int .i64 2, .int .i64 0] 105)).cell? ⟨W0.heap.size, 2, none⟩ = some (.int .i64 0) := by rw [World.cell?_alloc_at _ _ _ _ rfl]; rfl
  have HB := Lib.hid (hb0.trans (hb1.mono hb0.size))
  have hw1 : IntKind.i64.wrap ((nk : Int) + 1) = (nk : Int) + 1 := by rw [IntKind.wrap_i64]; omega
  have hw2 : IntKind.i64.wrap (2 * (nb : Int)) = 2 * (nb : Int) := by rw [IntKind.wrap_i64]; omega
  obtain ⟨out, hout⟩ : ∃ o, countB 6 n na nk nb = o := ⟨_, rfl⟩
  rw [hout]
  have HO := Lib.hid hout
  clear hout ht hsv hR hb0 hb1 hl hl2
  cases ha : ((na : Int) == 2)
  · have HV := Lib.hid (show out = false from HO.out.symm.trans (by have h1 := ha;  simp at h1; rw [Bool.eq_false_iff]; intro h; simp [countB] at h; omega))
    go_enter Tryd.func37, Tryd.ntmps37
    go_wp2_with fail
    go_quiet (fail)
    go_wp2_with fail
    go_ret
    exact ⟨ret_bool (HV.out.symm), below_drewN HB.out _⟩
  · cases hb : ((nb : Int) == 0)
    · have HV := Lib.hid (show out = false from HO.out.symm.trans (by have h1 := ha; have h2 := hb;  simp at h1 h2; rw [Bool.eq_false_iff]; intro h; simp [countB] at h; omega))
      go_enter Tryd.func37, Tryd.ntmps37
      go_wp2_with fail
      go_quiet (fail)
      go_wp2_with fail
      go_ret
      exact ⟨ret_bool (HV.out.symm), below_drewN HB.out _⟩
    · have HV := Lib.hid (show ((nk : Int) == 0) = out from HO.out.symm ▸ (by have h1 := ha; have h2 := hb;  simp at h1 h2; rw [Bool.eq_iff_iff]; simp [countB]; omega))
      go_enter Tryd.func37, Tryd.ntmps37
      go_wp2_with fail
      go_quiet (fail)
      go_wp2_with fail
      go_ret
      exact ⟨ret_bool (HV.out), below_drewN HB.out _⟩
end
end Go.Proofs.YtllakbiipdcboaaDoor

/-
  Flat programs: the plain law of more fuel.
-/
set_option linter.unusedVariables false
set_option linter.unusedSimpArgs false
namespace Go.Proofs.YtllakbiipdcboaaDoor

def FSt.up (s : FSt) (k : Nat) : FSt := { s with left := s.left + k }
/-- a run with less fuel and one with k more -/
structure RelF (k : Nat) (o o' : FOut) : Prop where
  whole : o.1 ≠ .cut → o' = (o.1, o.2.up k)
  cut : o.1 = .cut → o.2.left = 0 ∧ o.2.out <+: o'.2.out ∧ o'.2.left ≤ k
theorem RelF.same (k : Nat) (r : Res) (hr : r ≠ .cut) (s : FSt) : RelF k (r, s) (r, s.up k) := ⟨fun _ => rfl, fun h => absurd h hr⟩
theorem RelF.andThen {k m : Nat} {o o' : FOut} {f f' : PV → FSt → FOut} (h : RelF k o o') (hf : ∀ v, o.1 = .val v → RelF k (f v o.2) (f' v (o.2.up k))) (hg : ∀ v s, LeF s (f' v s).2 m) : RelF k (FOut.andThen o f) (FOut.andThen o' f') := by
  obtain ⟨r, s⟩ := o
  cases r with
  | val v => rw [h.whole (by simp)]; exact hf v rfl
  | raised v => rw [h.whole (by simp)]; exact RelF.same k _ (by simp) s
  | stuck => rw [h.whole (by simp)]; exact RelF.same k _ (by simp) s
  | cut =>
    obtain ⟨h1, h2, h3⟩ := h.cut rfl
    refine ⟨fun hh => absurd rfl hh, fun _ => ?_⟩
    have hgr := andThenF_le (l := 0) (LeF.refl o'.2 0) hg
    exact ⟨h1, h2.trans hgr.pre, Nat.le_trans hgr.left h3⟩
/-- a run that is cut off at once -/
theorem RelF.none {k m : Nat} {s : FSt} {o' : FOut} (h0 : s.left = 0) (h : LeF (s.up k) o'.2 m) : RelF k (.cut, s) o' :=
  ⟨fun hh => absurd rfl hh, fun _ => ⟨h0, h.pre, Nat.le_trans h.left (by simp [FSt.up, h0])⟩⟩
section
variable {funs : List FFun} {inp : List Int} {n k : Nat} {rec rec' : Anf → PEnv → FSt → FOut} (hle : ∀ t e s, LeF s (rec t e s).2) (hgr : ∀ t e s, LeF s (rec' t e s).2) (hrel : ∀ t e s, s.left < n → RelF k (rec t e s) (rec' t e (s.up k)))
include hle hgr hrel
omit hle in
theorem callF_rel (f a : PV) (s : FSt) (hs : s.left < n) : RelF k (callF funs rec f a s) (callF funs rec' f a (s.up k)) := by
  have hg := callF_le (funs := funs) hgr f a (s.up k)
  cases f with
  | fn i =>
    by_cases h0 : s.left = 0
    · have : callF funs rec (.fn i) a s = (.cut, s) := by unfold callF; simp only []; rw [if_pos h0]
      rw [this]
      exact RelF.none h0 hg
    · clear hg
      unfold callF
      simp only []
      rw [if_neg h0, if_neg (by simp only [FSt.up]; omega)]
      have hup : ({ s.up k with left := (s.up k).left - 1 } : FSt) = ({ s with left := s.left - 1 } : FSt).up k := by simp only [FSt.up]; congr 1; omega
      rw [hup]
      have e1 : (s.up k).made = s.made := rfl
      rw [e1]
      cases s.made[i]? with
      | none => exact RelF.same k _ (by simp) s
      | some g => exact hrel _ _ { s with left := s.left - 1 } (by show s.left - 1 < n; omega)
  | int m => exact RelF.same k _ (by simp) s
  | blk t l => exact RelF.same k _ (by simp) s
  | ref i => exact RelF.same k _ (by simp) s
theorem primF_rel (p : Int) (l : List PV) (s : FSt) (hs : s.left < n) : RelF k (primF funs inp rec p l s) (primF funs inp rec' p l (s.up k)) := by
  unfold primF
  simp only []
  split
  · exact RelF.same k _ (by simp) { s with cells := s.cells ++ [l[0]?.getD default] }
  split
  · split
    · exact RelF.same k _ (by simp) s
    · exact RelF.same k _ (by simp) s
  split
  · split
    · rename_i i _
      exact RelF.same k _ (by simp) { s with cells := s.cells.set i (l[1]?.getD default) }
    · exact RelF.same k _ (by simp) s
  split
  · split
    · rename_i m _
      exact RelF.same k _ (by simp) { s with out := s.out ++ [m] }
    · exact RelF.same k _ (by simp) s
  split
  · unfold readF
    by_cases hc : s.asked < inp.length
    · rw [if_pos hc, if_pos (show (s.up k).asked < inp.length from hc)]
      exact RelF.same k _ (by simp) { s with asked := s.asked + 1 }
    · rw [if_neg hc, if_neg (show ¬ (s.up k).asked < inp.length from hc)]
      exact RelF.same k _ (by simp) { s with asked := s.asked + 1 }
  split
  · split
    · exact RelF.same k _ (by simp) s
    · exact RelF.same k _ (by simp) s
  split
  · have h := callF_rel (funs := funs) hgr hrel (l[0]?.getD default) (.int 0) s hs
    have hl := callF_le (funs := funs) hle (l[0]?.getD default) (.int 0) s
    generalize callF funs rec (l[0]?.getD default) (.int 0) s = o at *
    generalize callF funs rec' (l[0]?.getD default) (.int 0) (s.up k) = o' at *
    obtain ⟨r, s1⟩ := o
    cases r with
    | val v => rw [h.whole (by simp)]; exact RelF.same k _ (by simp) s1
    | raised v => rw [h.whole (by simp)]; exact callF_rel hgr hrel _ _ s1 (Nat.lt_of_le_of_lt hl.left hs)
    | stuck => rw [h.whole (by simp)]; exact RelF.same k _ (by simp) s1
    | cut =>
      obtain ⟨h1, h2, h3⟩ := h.cut rfl
      refine ⟨fun hh => absurd rfl hh, fun _ => ⟨h1, ?_⟩⟩
      obtain ⟨r', s2⟩ := o'
      cases r' with
      | raised v =>
        have := callF_le (funs := funs) hgr (l[1]?.getD default) v s2
        exact ⟨h2.trans this.pre, Nat.le_trans this.left h3⟩
      | val v => exact ⟨h2, h3⟩
      | stuck => exact ⟨h2, h3⟩
      | cut => exact ⟨h2, h3⟩
  split
  · split
    · exact RelF.same k _ (by simp) s
    · exact RelF.same k _ (by simp) s
  · exact RelF.same k _ (by simp) s
omit hle hgr hrel in
theorem fieldF_rel (v : PV) (m : Int) (s : FSt) : RelF k (fieldF v m s) (fieldF v m (s.up k)) := by
  unfold fieldF
  cases v with
  | blk t l =>
    simp only []
    split
    · exact RelF.same k _ (by simp) s
    · exact RelF.same k _ (by simp) s
  | fn i => exact RelF.same k _ (by simp) s
  | int m => exact RelF.same k _ (by simp) s
  | ref i => exact RelF.same k _ (by simp) s
theorem rhsF_rel (kd m : Int) (l : List PV) (ks : List Int) (bl : List Anf) (e : PEnv) (s : FSt) (hs : s.left < n) : RelF k (rhsF funs inp rec kd m l ks bl e s) (rhsF funs inp rec' kd m l ks bl e (s.up k)) := by
  unfold rhsF
  split
  · exact RelF.same k _ (by simp) s
  split
  · exact RelF.same k _ (by simp) s
  split
  · exact RelF.same k _ (by simp) { s with made := s.made ++ [⟨m, bl[0]?.getD default, e⟩] }
  split
  · exact fieldF_rel _ _ _
  split
  · exact callF_rel hgr hrel _ _ _ hs
  split
  · split
    · exact hrel _ _ _ hs
    · exact RelF.same k _ (by simp) s
  · exact primF_rel hle hgr hrel _ _ _ hs
theorem bindF_rel (x kd m : Int) (ats : List Atm) (ks : List Int) (bl : List Anf) (rest : Anf) (e : PEnv) (s : FSt) (hs : s.left < n) : RelF k (bindF funs inp rec x kd m ats ks bl rest e s) (bindF funs inp rec' x kd m ats ks bl rest e (s.up k)) := by
  unfold bindF
  split
  · exact hrel rest _ { s with made := s.made ++ groupMade (groupEnv ks s.made.length e) ks bl } hs
  · generalize atomsP e ats = q
    cases q with
    | some l => exact (rhsF_rel hle hgr hrel _ _ _ _ _ _ _ hs).andThen (m := 0) (fun v _ => hrel _ _ _ (Nat.lt_of_le_of_lt (rhsF_le hle _ _ _ _ _ _ _).left hs)) (fun v s => hgr _ _ _)
    | none => exact RelF.same k _ (by simp) s
end
theorem evF_rel (funs : List FFun) (inp : List Int) (k : Nat) : ∀ (n n' : Nat), n ≤ n' → ∀ (t : Anf) (e : PEnv) (s : FSt), s.left < n → s.left + k < n' → RelF k (evF funs inp n t e s) (evF funs inp n' t e (s.up k))
  | 0, _, _, _, _, _, h, _ => absurd h (Nat.not_lt_zero _)
  | n + 1, 0, h, _, _, _, _, _ => by omega
  | n + 1, n' + 1, hn, .ret a, e, s, h1, h2 => by
    unfold evF
    split
    · exact RelF.same k _ (by simp) s
    · exact RelF.same k _ (by simp) s
  | n + 1, n' + 1, hn, .bind x kd m ats ks bl rest, e, s, h1, h2 => by
    by_cases h0 : s.left = 0
    · have hA : evF funs inp (n + 1) (.bind x kd m ats ks bl rest) e s = (.cut, s) := by rw [evF, if_pos h0]
      rw [hA]
      exact RelF.none h0 (evF_le funs inp (n' + 1) _ e (s.up k))
    · have hB : ¬ (s.up k).left = 0 := by simp only [FSt.up]; omega
      have hup : ({ s.up k with left := (s.up k).left - 1 } : FSt) = ({ s with left := s.left - 1 } : FSt).up k := by simp only [FSt.up]; congr 1; omega
      rw [evF, evF, if_neg h0, if_neg hB, hup]
      refine bindF_rel (n := s.left) (evF_le funs inp n) (evF_le funs inp n') (fun t e s' hs' => ?_) x kd m ats ks bl rest e { s with left := s.left - 1 } (by show s.left - 1 < s.left; omega)
      exact evF_rel funs inp k n n' (by omega) t e s' (by omega) (by omega)
theorem endF_out (F : Nat) (o : FOut) : (endF F o).out = o.2.out := by
  obtain ⟨r, s⟩ := o
  cases r <;> simp [endF]
  split <;> rfl
theorem endF_steps (F : Nat) (o : FOut) : (endF F o).steps = F - o.2.left := by
  obtain ⟨r, s⟩ := o
  cases r <;> simp [endF]
  split <;> rfl
/-- **the law of more fuel** -/
theorem moreF_ends {funs : List FFun} {t : Anf} {inp : List Int} {F1 F2 : Nat} (h : F1 ≤ F2) :
    ((endF F1 (evF funs inp (F1 + 1) t [] (initF F1))).kind ≠ 3 → endF F2 (evF funs inp (F2 + 1) t [] (initF F2)) = endF F1 (evF funs inp (F1 + 1) t [] (initF F1))) ∧
    ((endF F1 (evF funs inp (F1 + 1) t [] (initF F1))).kind = 3 → (endF F1 (evF funs inp (F1 + 1) t [] (initF F1))).out <+: (endF F2 (evF funs inp (F2 + 1) t [] (initF F2))).out ∧
      (endF F1 (evF funs inp (F1 + 1) t [] (initF F1))).steps ≤ (endF F2 (evF funs inp (F2 + 1) t [] (initF F2))).steps ∧ (endF F1 (evF funs inp (F1 + 1) t [] (initF F1))).steps = F1) := by
  obtain ⟨k, rfl⟩ : ∃ k, F2 = F1 + k := ⟨F2 - F1, by omega⟩
  have hr := evF_rel funs inp k (F1 + 1) (F1 + k + 1) (by omega) t [] (initF F1) (by simp [initF]) (by simp [initF])
  have hup : (initF F1).up k = initF (F1 + k) := rfl
  rw [hup] at hr
  have hl := (evF_le funs inp (F1 + 1) t [] (initF F1)).left
  generalize evF funs inp (F1 + 1) t [] (initF F1) = o at *
  generalize evF funs inp (F1 + k + 1) t [] (initF (F1 + k)) = o' at *
  obtain ⟨r, s⟩ := o
  have hl' : s.left ≤ F1 := hl
  have hsub : F1 + k - (s.left + k) = F1 - s.left := by omega
  cases r with
  | val v =>
    rw [hr.whole (by simp)]
    refine ⟨fun _ => ?_, fun h => by simp [endF] at h⟩
    simp only [endF, FSt.up, hsub]
  | raised v =>
    rw [hr.whole (by simp)]
    refine ⟨fun _ => ?_, fun h => ?_⟩
    · simp only [endF, FSt.up, hsub]
    · simp only [endF] at h; split at h <;> simp at h
  | stuck =>
    rw [hr.whole (by simp)]
    refine ⟨fun _ => ?_, fun h => by simp [endF] at h⟩
    simp only [endF, FSt.up, hsub]
  | cut =>
    obtain ⟨h1, h2, h3⟩ := hr.cut rfl
    refine ⟨fun h => by simp [endF] at h, fun _ => ?_⟩
    have h1' : s.left = 0 := h1
    have h3' : o'.2.left ≤ k := h3
    rw [endF_out, endF_out, endF_steps, endF_steps]
    refine ⟨h2, ?_, ?_⟩
    · show F1 - s.left ≤ _; omega
    · show F1 - s.left = F1; omega
end Go.Proofs.YtllakbiipdcboaaDoor
