/-
 2 texts of this seat in one: H19 H20.
-/
import Derived.Test.YtnobggabjpcbfaaGreatQI19
set_option maxRecDepth 100000
set_option maxHeartbeats 16000000
set_option linter.unusedVariables false
set_option linter.unusedSimpArgs false
namespace Go.Proofs.YtnobggabjpcbfaaGreat
open Go.RowKit
def AllPost (rb B : Nat) (p : FlatP) (inp : List Int) (fuel : Nat) (V : World) (o : FOut) (en : Ending) (V' : World) : Prop :=
 (∃ v s' m' g, o = (.val v, s') ∧ en = .returned g ∧ Evo rb m0 m' V V' ∧ Good rb B p inp fuel s' m' V') ∨ (∃ ch, en = .panicked ch ∧ EvPost rb B p inp fuel m0 V o (.panicked ch) V')
theorem whole_any {rb B : Nat} {p : FlatP} {inp : List Int} {fuel n : Nat} {V : World} (hg : Good rb B p inp fuel (initF fuel) m0 V) (hwf : ∀ g ∈ p.funs, WfA p.funs.length g.body) (hwm : WfA p.funs.length p.main) (hn : fuel < n) :
 Calls Tryz.prog 21 #[.pointer (some ⟨rb, 0, none⟩)] V (WholePost rb B V (endF fuel (evF p.funs inp n p.main [] (initF fuel)))) := by
 have hb1 : Below V.heap.size V (V.alloc (.cells #[.pointer (some ⟨rb, 0, none⟩)] 67)) := (Below.refl _ _).alloc (Nat.le_refl _) _
 have hg1 := hg.below hb1
 have hrbl := hg.mutLt (k := rb) (.inl rfl)
 have aV := at_new (fun k hk => hg.mutLt hk) #[.pointer (some ⟨rb, 0, none⟩)] 67
 obtain ⟨f0, f1, f2, f3, Ai, ci, hr, hfl, -, -⟩ := hg1.run
 obtain ⟨Af, cf, b2, o2, mm0, mm1, mm2, hv, k1, k2, k3, k4, k5⟩ := hfl
 simp only [Array.mk.injEq, List.cons.injEq, and_true] at hv
 obtain ⟨rfl, rfl, rfl, rfl⟩ := hv
 obtain ⟨A0, d0, bb0, oo0, hvv, -⟩ := k3.at_
 simp only [Array.mk.injEq, List.cons.injEq, and_true] at hvv
 obtain ⟨rfl, rfl, rfl⟩ := hvv
 have r1 : (V.alloc (.cells #[.pointer (some ⟨rb, 0, none⟩)] 67)).cell? ⟨rb, 1, none⟩ = some (.slice A0 p.main.len d0) := by simp [World.cell?, hr]
 have r2 : (V.alloc (.cells #[.pointer (some ⟨rb, 0, none⟩)] 67)).cell? ⟨rb, 2, none⟩ = some (.bool p.main.last.v) := by simp [World.cell?, hr]
 have r3 : (V.alloc (.cells #[.pointer (some ⟨rb, 0, none⟩)] 67)).cell? ⟨rb, 3, none⟩ = some (.int .i64 p.main.last.n) := by simp [World.cell?, hr]
 have r0 : (V.alloc (.cells #[.pointer (some ⟨rb, 0, none⟩)] 67)).cell? ⟨V.heap.size, 0, none⟩ = some (.pointer (some ⟨rb, 0, none⟩)) := by rw [World.cell?_alloc_at _ _ _ _ rfl]; rfl
 have HC := Lib.hid (fun (V2 : World) (hV : Below (V.alloc (.cells #[.pointer (some ⟨rb, 0, none⟩)] 67)).heap.size (V.alloc (.cells #[.pointer (some ⟨rb, 0, none⟩)] 67)) V2) =>
  (body_ok rb B p inp fuel hwf n p.main [] (initF fuel) m0 V2 _ (.pointer none) (k3.kept (hV.mono hg1.Bs)) hwm .nil (hg1.below hV) (show (initF fuel).left < n from hn)).mono (R' := AllPost rb B p inp fuel (V.alloc (.cells #[.pointer (some ⟨rb, 0, none⟩)] 67)) (evF p.funs inp n p.main [] (initF fuel))) fun en V' h => by
   rcases (h.from_ (Evo.below hV)).inv with ⟨v, s', m', T, x, h1, rfl, h3, h4, _⟩ | ⟨ch, rfl, h2, h3, _⟩
   · exact .inl ⟨v, s', m', _, h1, rfl, h3, h4⟩
   · exact .inr ⟨ch, rfl, h3⟩)
 have hR1 : Rest rb V (V.alloc (.cells #[.pointer (some ⟨rb, 0, none⟩)] 67)) := (Rest.refl _ _).alloc _
 have hmm : ∀ k, m0.mut rb k → k = rb ∨ V.heap.size ≤ k := fun k hk => .inl (m0_mut hk)
 generalize evF p.funs inp n p.main [] (initF fuel) = o at *
 clear hg hwf hwm hn hb1 hg1 hr k1 k2 k3 k4 k5
 generalize p.main.len = ml at *
 generalize p.main.last.v = mv at *
 generalize p.main.last.n = mn at *
 go_enter_defers Tryz.func21, Tryz.ntmps21
 go_wp2_with fail
 obtain ⟨V1, hV1⟩ : ∃ V1, V.alloc (.cells #[.pointer (some ⟨rb, 0, none⟩)] 67) = V1 := ⟨_, rfl⟩
 rw [hV1] at r0 r1 r2 r3 ⊢
 have e0 : V1.drew.cell? ⟨V.heap.size, 0, none⟩ = some (.pointer (some ⟨rb, 0, none⟩)) := r0
 have e1 : V1.drew.cell? ⟨rb, 1, none⟩ = some (.slice A0 ml d0) := r1
 have e2 : V1.drew.cell? ⟨rb, 2, none⟩ = some (.bool mv) := r2
 have e3 : V1.drew.cell? ⟨rb, 3, none⟩ = some (.int .i64 mn) := r3
 have HCD := Lib.hid (HC.out V1.drew (by rw [hV1]; exact (Below.refl _ _).drew))
 refine wp_region_still_tail 6 (by kernel_rfl) (by kernel_rfl) ?_
 change wpStill _ _ V1.drew _ _ _
 simp only [List.take_succ_cons, List.take_zero, List.drop_succ_cons, List.drop_zero]
 repeat still_step
 try refine wpStill_nil ?_
 go_wp2_with fail
 refine HCD.out.mono ?_
 -- what the closure finds
 have hfind : ∀ (s' : FSt) (m' : Mem) (V2 : World), Evo rb m0 m' (V.alloc (.cells #[.pointer (some ⟨rb, 0, none⟩)] 67)) V2 → Good rb B p inp fuel s' m' V2 →
  V2.cell? ⟨V.heap.size, 0, none⟩ = some (.pointer (some ⟨rb, 0, none⟩)) ∧ (∃ f0 f1 f2 f3 x0 x1, V2.heap[rb]? = some (.cells #[f0, f1, f2, f3, x0, x1, .int .i64 0, .int .i64 0, m'.vo, .int .i64 ((fuel - s'.left : Nat) : Int)] 69 (0, 0))) ∧
  Rest rb V V2 ∧ V2.ownsRow B 3 1 m'.vo s'.out.length (s'.out.map (Value.int .i64)) ∧ m'.vo.ownBlock ≠ some rb := fun s' m' V2 hk hg' => by
  obtain ⟨f0, f1, f2, f3, Ai, ci, hr, _⟩ := hg'.run
  have hl := hg'.left
  refine ⟨at_cell0 (aV.evo hk) rfl, ⟨_, _, _, _, _, _, by rw [hr, show ((fuel - s'.left : Nat) : Int) = (fuel : Int) - s'.left by omega]⟩, hR1.evo hk hmm, hg'.out, hg'.rbo⟩
 -- how a store into the record leaves the row of ints
 have hrow : ∀ (V2 : World) (vo v : Value) (k o : Nat) (xs : List Value), V2.ownsRow B 3 1 vo k xs → vo.ownBlock ≠ some rb → (V2.setCell ⟨rb, o, none⟩ v).ownsRow B 3 1 vo k xs := fun V2 vo v k o xs h hne =>
  h.kept (row := some rb) ⟨rfl, rfl, rfl, by simp [World.setCell], fun i hi h => heap_set_ne (fun e => h (by rw [e])) _ _⟩ (.inr hne)
 have halo : ∀ (V2 : World) (o : Obj), rb < V2.heap.size → (V2.alloc o).heap[rb]? = V2.heap[rb]? := fun V2 o h => ((Below.refl V2.heap.size V2).alloc (Nat.le_refl _) o).block rb h
 intro en V2 h
 rcases h with ⟨v, s', m', g, rfl, rfl, hk, hg'⟩ | ⟨ch, rfl, hp⟩
 · obtain ⟨f1, ⟨y0, y1, y2, y3, x0, x1, f2⟩, f3, f4, f5⟩ := hfind s' m' V2 hk hg'
   have q2 : V2.cell? ⟨rb, 6, none⟩ = some (.int .i64 0) := by simp [World.cell?, f2]
   have z2 : V2.frozen? ⟨rb, 6, none⟩ = false := by simp [World.frozen?, f2]
   have HP := Lib.hid (show WholePost rb B V (endF fuel (.val v, s')) (.returned (.tuple #[])) (V2.setCell ⟨rb, 6, none⟩ (.int .i64 1)) from
    ⟨rfl, f3.set _ _, y0, y1, y2, y3, x0, x1, m'.vo, by rw [heap_set_self f2]; rfl, hrow _ _ _ _ _ _ f4 f5⟩)
   clear hfind hrow halo hk hg' f3 f4 f5
   go_wp2_with fail
   refine leaves_cons (f := 38) (args := #[.pointer (some ⟨V.heap.size, 0, none⟩)]) (by simp) (by simp [go_sem]) ?_
   refine (whole1_idle _ rb (.nilIface) _ f1 q2 z2).mono ?_
   rintro e u' w'' ⟨rfl, rfl, rfl⟩
   simp [Leaves, settle, results, Tryz.results21, go_sem]
   exact HP.out
 · cases hp with
   | @raised v s' m' _ g _ hk hg' hv hkey hth =>
    obtain ⟨older, rfl, hold⟩ := hth
    obtain ⟨key, hkey⟩ := hkey
    obtain ⟨T, y, rfl⟩ := hv.shape
    obtain ⟨f1, ⟨y0, y1, y2, y3, x0, x1, f2⟩, f3, f4, f5⟩ := hfind s' m' V2 hk hg'
    have q2 : V2.cell? ⟨rb, 6, none⟩ = some (.int .i64 0) := by simp [World.cell?, f2]
    have z2 : V2.frozen? ⟨rb, 6, none⟩ = false := by simp [World.frozen?, f2]
    have q3 : V2.cell? ⟨rb, 7, none⟩ = some (.int .i64 0) := by simp [World.cell?, f2]
    have z3 : V2.frozen? ⟨rb, 7, none⟩ = false := by simp [World.frozen?, f2]
    have hv4 : RepV rb m' ((V2.setCell ⟨rb, 6, none⟩ (.int .i64 4)).alloc (.cells #[.iface T y] 94)) v (.iface T y) := (hv.evo (Evo.setCell V2 6 _ (.inl rfl))).evo (Evo.alloc _ _ _ _)
    have hK := (key_any hv4).mono (R' := fun e w' => e = .returned (.int .i64 key) ∧ (V2.setCell ⟨rb, 6, none⟩ (.int .i64 4)).alloc (.cells #[.iface T y] 94) = w') (by
     rintro e w' (⟨n, hn, rfl, rfl⟩ | ⟨hn, rfl, rfl⟩)
     · rw [hkey] at hn; cases hn; exact ⟨rfl, rfl⟩
     · rw [hkey] at hn; cases hn)
    have hrb2 : rb < V2.heap.size := (Array.getElem?_eq_some_iff.1 f2).1
    have hs1 : ((V2.setCell ⟨rb, 6, none⟩ (.int .i64 4)).alloc (.cells #[.iface T y] 94)).heap[rb]? = some (.cells #[y0, y1, y2, y3, x0, x1, .int .i64 4, .int .i64 0, m'.vo, .int .i64 ((fuel - s'.left : Nat) : Int)] 69 (0, 0)) := by
     rw [halo _ _ (by simpa [World.setCell] using hrb2), heap_set_self f2]; rfl
    have ho1 := (hrow _ _ (.int .i64 4) _ 6 _ f4 f5).alloc (.cells #[.iface T y] 94)
    have hr1 := (f3.set 6 (.int .i64 4)).alloc (.cells #[.iface T y] 94)
    refine leaves_cons (f := 38) (args := #[.pointer (some ⟨V.heap.size, 0, none⟩)]) (by simp) (by simp [go_sem]) ?_
    refine (whole1_raised _ rb key T y older _ f1 q2 z2 q3 z3 (by omega) hK).mono ?_
    rintro e u' w'' ⟨rfl, rfl, rfl⟩
    show Leaves _ _ _ _ [] (settle _) _
    rw [settle_thrown hold]
    by_cases hk0 : 0 ≤ key
    · have he : endF fuel (.raised v, s') = ⟨2, key, s'.out, fuel - s'.left⟩ := by simp [endF, hkey, hk0]
      rw [if_pos hk0, he]
      simp only [Leaves, results, Tryz.results21]
      refine ⟨.tuple #[], by simp, rfl, (hr1.set _ _).set _ _, y0, y1, y2, y3, x0, x1, m'.vo, ?_, hrow _ _ _ _ _ _ (hrow _ _ _ _ _ _ ho1 f5) f5⟩
      have h2 := heap_set_self hs1 6 (.int .i64 2)
      rw [heap_set_self h2]
      rfl
    · have he : endF fuel (.raised v, s') = ⟨4, 0, s'.out, fuel - s'.left⟩ := by simp [endF, hkey, hk0]
      rw [if_neg hk0, he]
      simp only [Leaves, results, Tryz.results21]
      exact ⟨.tuple #[], by simp, rfl, hr1, y0, y1, y2, y3, x0, x1, m'.vo, hs1, ho1⟩
   | @stuck s' m' _ _ hk hg' hth =>
    obtain ⟨older, rfl, hold⟩ := hth
    obtain ⟨f1, ⟨y0, y1, y2, y3, x0, x1, f2⟩, f3, f4, f5⟩ := hfind s' m' V2 hk hg'
    have q2 : V2.cell? ⟨rb, 6, none⟩ = some (.int .i64 0) := by simp [World.cell?, f2]
    have z2 : V2.frozen? ⟨rb, 6, none⟩ = false := by simp [World.frozen?, f2]
    refine leaves_cons (f := 38) (args := #[.pointer (some ⟨V.heap.size, 0, none⟩)]) (by simp) (by simp [go_sem]) ?_
    refine (whole1_stop _ rb 4 older _ f1 q2 z2).mono ?_
    rintro e u' w'' ⟨rfl, rfl, rfl⟩
    show Leaves _ _ _ _ [] (settle _) _
    rw [settle_thrown hold]
    simp only [Leaves, results, Tryz.results21]
    refine ⟨.tuple #[], by simp, rfl, (f3.alloc _).set _ _, y0, y1, y2, y3, x0, x1, m'.vo, ?_, hrow _ _ _ _ _ _ (f4.alloc _) f5⟩
    rw [heap_set_self ((halo V2 _ (Array.getElem?_eq_some_iff.1 f2).1).trans f2)]; rfl
   | @cut s' m' _ _ hk hg' hth =>
    obtain ⟨older, rfl, hold⟩ := hth
    obtain ⟨f1, ⟨y0, y1, y2, y3, x0, x1, f2⟩, f3, f4, f5⟩ := hfind s' m' V2 hk hg'
    have q2 : V2.cell? ⟨rb, 6, none⟩ = some (.int .i64 0) := by simp [World.cell?, f2]
    have z2 : V2.frozen? ⟨rb, 6, none⟩ = false := by simp [World.frozen?, f2]
    refine leaves_cons (f := 38) (args := #[.pointer (some ⟨V.heap.size, 0, none⟩)]) (by simp) (by simp [go_sem]) ?_
    refine (whole1_stop _ rb 3 older _ f1 q2 z2).mono ?_
    rintro e u' w'' ⟨rfl, rfl, rfl⟩
    show Leaves _ _ _ _ [] (settle _) _
    rw [settle_thrown hold]
    simp only [Leaves, results, Tryz.results21]
    refine ⟨.tuple #[], by simp, rfl, (f3.alloc _).set _ _, y0, y1, y2, y3, x0, x1, m'.vo, ?_, hrow _ _ _ _ _ _ (f4.alloc _) f5⟩
    rw [heap_set_self ((halo V2 _ (Array.getElem?_eq_some_iff.1 f2).1).trans f2)]; rfl
end Go.Proofs.YtnobggabjpcbfaaGreat
namespace Go.Proofs.YtnobggabjpcbfaaGreat
open Go.RowKit
def runE (p : FlatP) (inp : List Int) (f : Int) : PEnd := if rightC p = 0 then endF (fuelOf f) (runF p inp f) else ⟨4, 0, [], 0⟩
def EndIn (B : Nat) (w : World) (pe : PEnd) (e : Ending) (w' : World) : Prop :=
 ∃ A c, e = .returned (.agg #[.int .i64 pe.kind, .int .i64 pe.n, .slice A pe.out.length c, .int .i64 pe.steps]) ∧ IntsIn w'.heap.size w' A pe.out ∧ pe.out.length ≤ c ∧ (∀ a, A = some a → B ≤ a.block) ∧ Below w.heap.size w w'
def RightSays (p : FlatP) : Prop := ∀ (W : World) (v : Array Value), FlatIn W.heap.size W p v → Calls Tryz.prog 20 #[.agg v] W fun e w' => e = .returned (.int .i64 (rightC p)) ∧ Below W.heap.size W w'
theorem FlatIn.shape {B : Nat} {w : World} {p : FlatP} {v : Array Value} (h : FlatIn B w p v) : ∃ A0 n0 d0 A1 n1 d1 b1 k1, v = #[.slice A0 n0 d0, .slice A1 n1 d1, .bool b1, .int .i64 k1] := by
 obtain ⟨Af, cf, b, o, m0, m1, m2, h1, h2, h3, h4, h5, h6⟩ := h
 obtain ⟨A1, c1, b1, o1, hv, -⟩ := h4.at_
 simp only [Array.mk.injEq, List.cons.injEq, and_true] at hv
 obtain ⟨rfl, rfl, rfl⟩ := hv
 exact ⟨_, _, _, _, _, _, _, _, h1⟩
theorem run_wrong {B : Nat} {W : World} {p : FlatP} {v : Array Value} (hin : FlatIn B W p v) (hB : B ≤ W.heap.size) (hrs : RightSays p) (inp f : Value) (hr : rightC p ≠ 0) :
 Calls Tryz.prog 7 #[.agg v, inp, f] W (EndIn B W ⟨4, 0, [], 0⟩) := by
 obtain ⟨A0, n0, d0, A1, n1, d1, b1, k1, rfl⟩ := hin.shape
 have hb1 : Below W.heap.size W ((W.alloc (.cells #[.slice A0 n0 d0, .slice A1 n1 d1, .bool b1, .int .i64 k1] 29)).alloc (.cells #[.int .i64 0, .int .i64 0, .slice none 0 0, .int .i64 0] 35)) := ((Below.refl _ _).alloc (Nat.le_refl _) _).alloc (by rw [World.size_alloc]; exact Nat.le_succ _) _
 have HR := Lib.hid (hrs _ _ ((hin.kept (hb1.mono hB)).mono (Nat.le_trans hB hb1.size)))
 have hrr : (rightC p == 0) = false := by simpa using hr
 have HB := Lib.hid hb1
 generalize rightC p = r at *
 clear hin hb1 hrs
 go_enter Tryz.func7, Tryz.ntmps7
 go_wp2_with fail
 refine HR.out.mono ?_
 rintro e w' ⟨rfl, hb2⟩
 have h31 : w'.heap[W.heap.size + 1]? = some (.cells #[.int .i64 0, .int .i64 0, .slice none 0 0, .int .i64 0] 35 (0, 0)) := (hb2.block (W.heap.size + 1) (by simp)).trans (two_new2 W _ _)
 have c0 : w'.cell? ⟨W.heap.size + 1, 0, none⟩ = some (.int .i64 0) := by simp [World.cell?, h31]
 have c1 : w'.cell? ⟨W.heap.size + 1, 1, none⟩ = some (.int .i64 0) := by simp [World.cell?, h31]
 have c2 : w'.cell? ⟨W.heap.size + 1, 2, none⟩ = some (.slice none 0 0) := by simp [World.cell?, h31]
 have c3 : w'.cell? ⟨W.heap.size + 1, 3, none⟩ = some (.int .i64 0) := by simp [World.cell?, h31]
 have fz : ∀ i, w'.frozen? ⟨W.heap.size + 1, i, none⟩ = false := fun i => by simp [World.frozen?, h31]
 have hb3 : Below W.heap.size W w' := HB.out.trans (hb2.mono HB.out.size)
 have HB3 := Lib.hid hb3
 clear hb2 hb3 h31
 go_wp2_with fail
 refine bodyPost_ret (v := .agg #[.int .i64 4, .int .i64 0, .slice none 0 0, .int .i64 0]) (by simp [results, Tryz.results7, go_sem, c0, c1, c2, c3]) rfl ?_
 refine ⟨none, 0, rfl, ⟨by simp, .inl rfl⟩, by simp, (by intro a h; cases h), ?_⟩
 exact (((HB3.out.setCell (p := ⟨_, _, none⟩) (Nat.le_succ _) _).setCell (p := ⟨_, _, none⟩) (Nat.le_succ _) _).setCell (p := ⟨_, _, none⟩) (Nat.le_succ _) _).setCell (p := ⟨_, _, none⟩) (Nat.le_succ _) _
theorem fuelOf_int (f : Int) : ((fuelOf f : Nat) : Int) = min (max f 0) 1000000 := by unfold fuelOf; omega
theorem fuelOf_le (f : Int) : fuelOf f ≤ 1000000 := by unfold fuelOf; omega
theorem own_ints {w : World} {base n : Nat} {e : TypeId} {v : Value} {xs : List Int} (h : w.ownsRow base e 1 v n (xs.map (Value.int .i64))) (hb : xs.length * 8 ≤ 140737488351232) :
 ∃ A c, v = .slice A xs.length c ∧ IntsIn w.heap.size w A xs ∧ xs.length ≤ c := by
 have hl : xs.length = n := by have := h.1; simpa using this
 rcases h.2 with ⟨rfl, h0⟩ | ⟨g, cap, cur, rfl, _, hg, hn, _⟩
 · refine ⟨none, 0, by rw [hl, h0], ⟨hb, .inl (List.length_eq_zero_iff.1 (by omega))⟩, by omega⟩
 · refine ⟨some ⟨g, 0, none⟩, cap, by rw [hl], ⟨hb, .inr ⟨g, 0, rfl, (h.lt g rfl).2, fun j hj => ?_⟩⟩, by omega⟩
   have := World.ownsRow.cells h (g := g) rfl j (.int .i64 (nth xs j)) (by simp [nth_eq _ hj, hj])
   have ha : (⟨g, 0, none⟩ : Addr).add j = ⟨g, 0 + j, none⟩ := by unfold Addr.add; split <;> simp_all
   rw [ha] at this
   exact this
theorem ownsRow_same {w w' : World} {base : Nat} {e : TypeId} {size : Nat} {v : Value} {n : Nat} {xs : List Value} (h : w.ownsRow base e size v n xs) (hk : ∀ k, v.ownBlock = some k → w'.heap[k]? = w.heap[k]?) : w'.ownsRow base e size v n xs := by
 refine ⟨h.1, ?_⟩
 rcases h.2 with h0 | ⟨g, cap, cur, rfl, h1, h2, h3⟩
 · exact .inl h0
 · exact .inr ⟨g, cap, cur, rfl, h1, (hk g rfl).trans h2, h3⟩
theorem good_start {B : Nat} {w V : World} {p : FlatP} {inp : List Int} {F : Nat} (hF : F ≤ 1000000) {v0 v1 v2 v3 : Value} (hfl : FlatIn B w p #[v0, v1, v2, v3]) {Ai : Option Addr} {ci : Nat} (hi : IntsIn B w Ai inp) (hci : inp.length ≤ ci) (hB : B ≤ w.heap.size)
 (hV : Below w.heap.size w V) (hr : V.heap[w.heap.size]? = some (.cells #[v0, v1, v2, v3, .slice Ai inp.length ci, .int .i64 F, .int .i64 0, .int .i64 0, .slice none 0 0, .int .i64 0] 69 (0, 0))) :
 Good w.heap.size B p inp F (initF F) m0 V :=
 ⟨Nat.le_trans hB hV.size, hB, Nat.le_refl _, hF, by simp [initF], ⟨v0, v1, v2, v3, Ai, ci, by simpa [initF, m0] using hr, hfl.kept (hV.mono hB), by simpa [initF] using hi.below (hV.mono hB), by simpa [initF] using hci⟩,
  ⟨by simp [initF], .inl ⟨rfl, rfl⟩⟩, rfl, by intro i h; simp [initF] at h, rfl, by intro i h; simp [initF] at h, by simp [m0], by simp [m0], by simp [m0, Value.ownBlock], by intro b h; simp [m0] at h, by intro b h; simp [m0] at h⟩
theorem run_right {B : Nat} {W : World} {p : FlatP} {v : Array Value} (hin : FlatIn B W p v) (hB : B ≤ W.heap.size) (hrs : RightSays p) {inp : List Int} {Ai : Option Addr} {ci : Nat} (hi : IntsIn B W Ai inp) (hci : inp.length ≤ ci) (f : Int) (hr : rightC p = 0) :
 Calls Tryz.prog 7 #[.agg v, .slice Ai inp.length ci, .int .i64 f] W (EndIn B W (endF (fuelOf f) (runF p inp f))) := by
 obtain ⟨A0, n0, d0, A1, n1, d1, b1, k1, rfl⟩ := hin.shape
 have hb1 : Below W.heap.size W ((W.alloc (.cells #[.slice A0 n0 d0, .slice A1 n1 d1, .bool b1, .int .i64 k1] 29)).alloc (.cells #[.int .i64 0, .int .i64 0, .slice none 0 0, .int .i64 0] 35)) := ((Below.refl _ _).alloc (Nat.le_refl _) _).alloc (by rw [World.size_alloc]; exact Nat.le_succ _) _
 have HR := Lib.hid (hrs _ _ ((hin.kept (hb1.mono hB)).mono (Nat.le_trans hB hb1.size)))
 have HWF := Lib.hid (wf_of_rightC hr)
 have HB := Lib.hid hb1
 have HI := Lib.hid hi
 have HIN := Lib.hid hin
 have hlen64 := hi.1
 obtain ⟨L, hL⟩ : ∃ L, inp.length = L := ⟨_, rfl⟩
 have HLL := Lib.hid hL
 rw [hL] at hci hlen64 ⊢
 rw [hr] at HR
 clear hin hb1 hi hL hrs
 go_enter Tryz.func7, Tryz.ntmps7
 go_wp2_with fail
 refine HR.out.mono ?_
 rintro e w' ⟨rfl, hb2⟩
 have h30 : w'.heap[W.heap.size]? = some (.cells #[.slice A0 n0 d0, .slice A1 n1 d1, .bool b1, .int .i64 k1] 29 (0, 0)) := (hb2.block W.heap.size (by simp; omega)).trans (two_new1 W _ _)
 have h31 : w'.heap[W.heap.size + 1]? = some (.cells #[.int .i64 0, .int .i64 0, .slice none 0 0, .int .i64 0] 35 (0, 0)) := (hb2.block (W.heap.size + 1) (by simp)).trans (two_new2 W _ _)
 have q0 : w'.cell? ⟨W.heap.size, 0, none⟩ = some (.slice A0 n0 d0) := by simp [World.cell?, h30]
 have q1 : w'.cell? ⟨W.heap.size, 1, none⟩ = some (.slice A1 n1 d1) := by simp [World.cell?, h30]
 have q2 : w'.cell? ⟨W.heap.size, 2, none⟩ = some (.bool b1) := by simp [World.cell?, h30]
 have q3 : w'.cell? ⟨W.heap.size, 3, none⟩ = some (.int .i64 k1) := by simp [World.cell?, h30]
 have hb3 : Below W.heap.size W w' := HB.out.trans (hb2.mono HB.out.size)
 have hsz : W.heap.size + 2 ≤ w'.heap.size := by have := hb2.size; simp at this; omega
 have HB3 := Lib.hid hb3
 have HC := Lib.hid (fun (X : Nat) (FI : Int) (V : World) (hX : X = (inp.take 4096).length) (hFI : FI = ((fuelOf f : Nat) : Int)) (hV : Below w'.heap.size w' V) (hrec : V.heap[w'.heap.size]? = some (.cells #[.slice A0 n0 d0, .slice A1 n1 d1, .bool b1, .int .i64 k1, .slice Ai X ci, .int .i64 FI, .int .i64 0, .int .i64 0, .slice none 0 0, .int .i64 0] 69 (0, 0))) =>
  (show Calls Tryz.prog 21 #[.pointer (some ⟨w'.heap.size, 0, none⟩)] V (WholePost w'.heap.size B V (endF (fuelOf f) (runF p inp f))) from by
   subst hX hFI
   have hbB := hb3.mono hB
   have hgood := good_start (fuelOf_le f) (HIN.out.kept hbB) ((HI.out.take 4096).below hbB) (by have := HLL.out; simp; omega) (Nat.le_trans hB hb3.size) hV hrec
   exact whole_any hgood HWF.out.1 HWF.out.2 (Nat.lt_succ_self _)))
 have HE := Lib.hid (fun (V V' : World) (hV : Below w'.heap.size w' V) (hVs : w'.heap.size + 1 ≤ V.heap.size) (hP : WholePost w'.heap.size B V (endF (fuelOf f) (runF p inp f)) (.returned (.tuple #[])) V') =>
  (show ∃ A k c, (V'.cell? ⟨w'.heap.size, 6, none⟩ = some (.int .i64 (endF (fuelOf f) (runF p inp f)).kind) ∧ V'.cell? ⟨w'.heap.size, 7, none⟩ = some (.int .i64 (endF (fuelOf f) (runF p inp f)).n) ∧
   V'.cell? ⟨w'.heap.size, 8, none⟩ = some (.slice A k c) ∧ V'.cell? ⟨w'.heap.size, 9, none⟩ = some (.int .i64 (endF (fuelOf f) (runF p inp f)).steps) ∧
   V'.cell? ⟨W.heap.size + 1, 0, none⟩ = some (.int .i64 0) ∧ V'.cell? ⟨W.heap.size + 1, 1, none⟩ = some (.int .i64 0) ∧ V'.cell? ⟨W.heap.size + 1, 2, none⟩ = some (.slice none 0 0) ∧ V'.cell? ⟨W.heap.size + 1, 3, none⟩ = some (.int .i64 0)) ∧
   (∀ i, V'.frozen? ⟨W.heap.size + 1, i, none⟩ = false) ∧
   ∀ V2, V'.heap.size ≤ V2.heap.size → V2.os = V'.os → V2.tape = V'.tape → V2.output = V'.output → (∀ k, k ≠ W.heap.size + 1 → V2.heap[k]? = V'.heap[k]?) →
    EndIn B W (endF (fuelOf f) (runF p inp f)) (.returned (.agg #[.int .i64 (endF (fuelOf f) (runF p inp f)).kind, .int .i64 (endF (fuelOf f) (runF p inp f)).n, .slice A k c, .int .i64 (endF (fuelOf f) (runF p inp f)).steps])) V2 from by
   obtain ⟨_, hrest, y0, y1, y2, y3, x0, x1, vo, hrec, hout⟩ := hP
   have h6 : V'.heap[W.heap.size + 1]? = some (.cells #[.int .i64 0, .int .i64 0, .slice none 0 0, .int .i64 0] 35 (0, 0)) := (hrest.same _ (by omega) (by omega)).trans ((hV.block _ (by omega)).trans h31)
   have hoL : (endF (fuelOf f) (runF p inp f)).out.length ≤ 1000000 := by
    rw [endF_out]
    have h1 := (evF_le p.funs (inp.take 4096) (fuelOf f + 1) p.main [] (initF (fuelOf f))).out
    have h2 := fuelOf_le f
    unfold runF
    simp [initF] at h1 ⊢
    omega
   have hvo : ∃ A k c, vo = .slice A k c := ownsRow_shape hout
   obtain ⟨A, k, c, rfl⟩ := hvo
   refine ⟨A, k, c, ⟨by simp [World.cell?, hrec], by simp [World.cell?, hrec], by simp [World.cell?, hrec], by simp [World.cell?, hrec], by simp [World.cell?, h6], by simp [World.cell?, h6], by simp [World.cell?, h6], by simp [World.cell?, h6]⟩, fun i => by simp [World.frozen?, h6], fun V2 e1 e2 e3 e4 e5 => ?_⟩
   have hout2 := ownsRow_same hout (w' := V2) (fun q hq => e5 q (by
    rintro rfl
    rcases hout.2 with ⟨h0, _⟩ | ⟨g, cap, cur, h0, _, hgg, _⟩
    · rw [h0] at hq; simp [Value.ownBlock] at hq
    · rw [h0] at hq; simp [Value.ownBlock] at hq
      subst hq
      have := hgg.symm.trans h6
      simp only [Option.some.injEq, Obj.cells.injEq] at this
      exact absurd this.2.1 (by decide)))
   obtain ⟨A', c', hA, hints, hc⟩ := own_ints hout2 (by omega)
   cases hA
   have hlo : ∀ a, A = some a → B ≤ a.block := fun a ha => by
    subst ha
    exact (hout2.lt a.block rfl).1
   refine ⟨A, c, rfl, hints, hc, hlo, ?_⟩
   have hbV : Below W.heap.size W V' := hb3.trans ⟨(hrest.os.trans hV.os), (hrest.tape.trans hV.tape), (hrest.output.trans hV.output), Nat.le_trans (Nat.le_trans (by omega) hV.size) hrest.size, fun q hq => (hrest.same q (by omega) (by omega)).trans (hV.block q (by omega))⟩
   exact ⟨e2.trans hbV.os, e3.trans hbV.tape, e4.trans hbV.output, Nat.le_trans hbV.size e1, fun q hq => (e5 q (by omega)).trans (hbV.block q hq)⟩))
 have hfi := fuelOf_int f
 have HFI := Lib.hid hfi
 have hls : W.heap.size < w'.heap.size := by omega
 clear hb2 hb3 h30 h31 hfi
 generalize endF (fuelOf f) (runF p inp f) = pe at *
 have hL0 : (0 : Int) ≤ min (L : Int) 4096 := by omega
 have hL1 : min (L : Int) 4096 ≤ (ci : Int) := by omega
 go_wp2_with fail
 go_region
 all_goals
  obtain ⟨FI, hFI⟩ : ∃ FI : Int, (if 1000000 < (if f < 0 then 0 else f) then 1000000 else (if f < 0 then 0 else f)) = FI := ⟨_, rfl⟩
  have HF2 := Lib.hid (show FI = ((fuelOf f : Nat) : Int) from by have := HFI.out; rw [← hFI]; split <;> split at * <;> omega)
  obtain ⟨X, hX⟩ : ∃ X : Nat, (if 4096 < (L : Int) then 4096 else (L : Int)).toNat = X := ⟨_, rfl⟩
  have HX2 := Lib.hid (show X = (inp.take 4096).length from by have := HLL.out; rw [← hX]; simp; split <;> omega)
  rw [hFI, hX]
  clear hFI hX
  obtain ⟨V, hV⟩ : ∃ V, (w'.alloc (.cells #[.slice A0 n0 d0, .slice A1 n1 d1, .bool b1, .int .i64 k1, .slice Ai X ci, .int .i64 FI, .int .i64 0, .int .i64 0, .slice none 0 0, .int .i64 0] 69)).drew = V := ⟨_, rfl⟩
  have hbV : Below w'.heap.size w' V := by rw [← hV]; exact ((Below.refl _ _).alloc (Nat.le_refl _) _).drew
  have hVr : V.heap[w'.heap.size]? = some (.cells #[.slice A0 n0 d0, .slice A1 n1 d1, .bool b1, .int .i64 k1, .slice Ai X ci, .int .i64 FI, .int .i64 0, .int .i64 0, .slice none 0 0, .int .i64 0] 69 (0, 0)) := by rw [← hV]; exact World.alloc_heap_new w' _
  have HCC := Lib.hid (HC.out X FI V HX2.out HF2.out hbV hVr)
  have HEE := Lib.hid (fun V' => HE.out V V' hbV ((Array.getElem?_eq_some_iff.1 hVr).1))
  rw [hV]
  clear hV hbV hVr HC HE q0 q1 q2 q3
  go_wp2_with fail
  all_goals
   refine HCC.out.mono ?_
   intro e V' hP
   obtain ⟨rfl, _⟩ := id hP
   obtain ⟨A, k, c, ⟨r2, r3, r4, r5, r60, r61, r62, r63⟩, rfz, hfin⟩ := HEE.out _ hP
   have HFIN := Lib.hid hfin
   clear hP hfin
   go_wp2_with fail
   refine bodyPost_ret (v := .agg #[.int .i64 pe.kind, .int .i64 pe.n, .slice A k c, .int .i64 pe.steps]) (by simp [results, Tryz.results7, go_sem, r60, r61, r62, r63]) rfl ?_
   refine HFIN.out _ (by simp [World.setCell]) rfl rfl rfl (fun q hq => ?_)
   rw [heap_set_ne hq, heap_set_ne hq, heap_set_ne hq, heap_set_ne hq]
theorem frun_any {B : Nat} {W : World} {p : FlatP} {v : Array Value} (hin : FlatIn B W p v) (hB : B ≤ W.heap.size) (hrs : RightSays p) {inp : List Int} {Ai : Option Addr} {ci : Nat} (hi : IntsIn B W Ai inp) (hci : inp.length ≤ ci) (f : Int) :
 Calls Tryz.prog 7 #[.agg v, .slice Ai inp.length ci, .int .i64 f] W (EndIn B W (runE p inp f)) := by
 unfold runE
 split
 · exact run_right hin hB hrs hi hci f (by assumption)
 · exact run_wrong hin hB hrs _ _ (by assumption)
end Go.Proofs.YtnobggabjpcbfaaGreat
