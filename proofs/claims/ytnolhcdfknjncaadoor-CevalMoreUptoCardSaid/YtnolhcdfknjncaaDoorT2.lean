/-
  The program's evaluator: a term's frame.
-/
import Derived.Test.YtnolhcdfknjncaaDoorT1
set_option linter.unusedVariables false
set_option linter.unusedSimpArgs false
namespace Go.Proofs.YtnolhcdfknjncaaDoor
open Go.RowKit

/-- the world in which a term's frame stands: its three variables -/
def frameW (W : World) (rb : Nat) (v : Array Value) (ge : Value) : World :=
  ((W.alloc (.cells #[.pointer (some ⟨rb, 0, none⟩)] 49)).alloc (.cells v 26)).alloc (.cells #[ge] 83)

theorem frame_at {rb B : Nat} {inp : List Int} {fuel : Nat} {s : St} {m : Mem} {W : World} (hg : Good rb B inp fuel s m W) {t : Core} {v : Array Value} (hin : CoreIn B W t v) {e : PEnv} {ge : Value} (he : EnvIn rb m W e ge) :
    Below W.heap.size W (frameW W rb v ge) ∧ Good rb B inp fuel s m (frameW W rb v ge) ∧ TermAt rb B m (frameW W rb v ge) t v e ge W.heap.size := by
  have hb1 : Below W.heap.size W (W.alloc (.cells #[.pointer (some ⟨rb, 0, none⟩)] 49)) := (Below.refl _ _).alloc (Nat.le_refl _) _
  have hg1 := hg.below hb1
  have hs1 : (W.alloc (.cells #[.pointer (some ⟨rb, 0, none⟩)] 49)).heap.size = W.heap.size + 1 := by simp
  have hb2 : Below (W.heap.size + 1) (W.alloc (.cells #[.pointer (some ⟨rb, 0, none⟩)] 49)) ((W.alloc (.cells #[.pointer (some ⟨rb, 0, none⟩)] 49)).alloc (.cells v 26)) := (Below.refl _ _).alloc (by omega) _
  have hg2 := hg1.below (hs1 ▸ hb2)
  have hs2 : ((W.alloc (.cells #[.pointer (some ⟨rb, 0, none⟩)] 49)).alloc (.cells v 26)).heap.size = W.heap.size + 2 := by simp
  have hb3 : Below (W.heap.size + 2) ((W.alloc (.cells #[.pointer (some ⟨rb, 0, none⟩)] 49)).alloc (.cells v 26)) (frameW W rb v ge) := (Below.refl _ _).alloc (by omega) _
  have hg3 := hg2.below (hs2 ▸ hb3)
  have hb : Below W.heap.size W (frameW W rb v ge) := hb1.trans ((hb2.mono (by omega)).trans (hb3.mono (by omega)))
  have hk := Evo.below (rb := rb) (m := m) hb
  have a1 := at_new (fun k hk => hg.apartLt hk) #[.pointer (some ⟨rb, 0, none⟩)] 49
  have a2 := at_new (fun k hk => hg1.apartLt hk) v 26
  have a3 := at_new (fun k hk => hg2.apartLt hk) #[ge] 83
  rw [hs1] at a2
  rw [hs2] at a3
  exact ⟨hb, hg3, (a1.evo (Evo.below (hs1 ▸ hb2))).evo (Evo.below (hs2 ▸ hb3)), a2.evo (Evo.below (hs2 ▸ hb3)), a3, hin.stay (hg.stay hk), he.evo hk⟩

/-- a function more -/
theorem Good.addFn {rb B : Nat} {inp : List Int} {fuel : Nat} {s : St} {m : Mem} {W : World} (hg : Good rb B inp fuel s m W) {p : Int} {c : Core} {c0 c1 c2 c3 : Value} (hc : CoreIn B W c #[c0, c1, c2, c3]) (hw : WT c) {e : PEnv} {ge : Value} (he : EnvIn rb m W e ge) :
    Good rb B inp fuel { s with fns := s.fns ++ [⟨p, c, e⟩] } { m with fa := m.fa ++ [W.heap.size] } (W.alloc (.cells #[.int .i64 p, c0, c1, c2, c3, ge] 90)) ∧ Evo rb m { m with fa := m.fa ++ [W.heap.size] } W (W.alloc (.cells #[.int .i64 p, c0, c1, c2, c3, ge] 90)) ∧
      RepV rb { m with fa := m.fa ++ [W.heap.size] } (W.alloc (.cells #[.int .i64 p, c0, c1, c2, c3, ge] 90)) (.fn s.fns.length) (.iface 88 (.pointer (some ⟨W.heap.size, 0, none⟩))) := by
  have hb : Below W.heap.size W (W.alloc (.cells #[.int .i64 p, c0, c1, c2, c3, ge] 90)) := (Below.refl _ _).alloc (Nat.le_refl _) _
  have hk : Evo rb m { m with fa := m.fa ++ [W.heap.size] } W (W.alloc (.cells #[.int .i64 p, c0, c1, c2, c3, ge] 90)) := (Evo.below hb).more (List.prefix_append _ _) (List.prefix_refl _) (fun k h => .inl h)
  have hgW := hg.below hb
  have hget : (m.fa ++ [W.heap.size])[s.fns.length]? = some W.heap.size := by
    rw [← hg.falen, List.getElem?_append_right (Nat.le_refl _)]; simp
  refine ⟨⟨hgW.Bs, hg.rbB, hg.left, hg.fuelB, hg.bnd, hgW.run, hgW.out, ?_, ?_, hg.calen, ?_, hg.nodup, hg.rbca, hg.rbo, hg.oca, hg.caB, hg.privEvo hk⟩, hk, .fn hget⟩
  · show (m.fa ++ [W.heap.size]).length = (s.fns ++ [_]).length
    simp [hg.falen]
  · intro i hi
    by_cases hi' : i < s.fns.length
    · obtain ⟨b', d0, d1, d2, d3, kp, h1, h2, h3, h4, h5⟩ := hg.fnsEvo hk i hi'
      simp only [List.getElem_append_left hi']
      exact ⟨b', d0, d1, d2, d3, kp, h1, h2, h3, h4, h5⟩
    · have hj : i = s.fns.length := by simp at hi; omega
      subst hj
      have hget' : (s.fns ++ [(⟨p, c, e⟩ : PFn)])[s.fns.length] = ⟨p, c, e⟩ := by simp
      simp only [hget']
      refine ⟨W.heap.size, c0, c1, c2, c3, ge, hget, ⟨World.alloc_heap_new W _, fun hm => ?_⟩, hc.stay (hg.stay hk), hw, he.evo hk⟩
      have := hg.apartLt (k := W.heap.size) hm
      omega
  · intro i hi
    obtain ⟨b', gv, h1, h2, h3⟩ := hg.cells i hi
    exact ⟨b', gv, h1, (hb.block b' (Array.getElem?_eq_some_iff.1 h2).1).trans h2, h3.evo hk⟩

theorem EvPost.inv {rb B : Nat} {inp : List Int} {fuel : Nat} {m : Mem} {W : World} {o : Out} {e : Ending} {V : World} (h : EvPost rb B inp fuel m W o e V) :
    (∃ v s' m' T x, o = (.val v, s') ∧ e = .returned (.iface T x) ∧ Evo rb m m' W V ∧ Good rb B inp fuel s' m' V ∧ RepV rb m' V v (.iface T x)) ∨
      (∃ ch, e = .panicked ch ∧ (∀ o', (∀ v s', o ≠ (.val v, s')) → (o' = o) → EvPost rb B inp fuel m W o' (.panicked ch) V) ∧ (∀ v s', o ≠ (.val v, s')) ∧ ∀ f, EvPost rb B inp fuel m W (Out.andThen o f) (.panicked ch) V) := by
  cases h with
  | val h1 h2 h3 => obtain ⟨T, x, rfl⟩ := h3.shape; exact .inl ⟨_, _, _, T, x, rfl, rfl, h1, h2, h3⟩
  | raised h1 h2 h3 h4 h5 => exact .inr ⟨_, rfl, fun o' _ e => e ▸ .raised h1 h2 h3 h4 h5, by simp, fun f => .raised h1 h2 h3 h4 h5⟩
  | stuck h1 h2 h3 => exact .inr ⟨_, rfl, fun o' _ e => e ▸ .stuck h1 h2 h3, by simp, fun f => .stuck h1 h2 h3⟩
  | cut h1 h2 h3 => exact .inr ⟨_, rfl, fun o' _ e => e ▸ .cut h1 h2 h3, by simp, fun f => .cut h1 h2 h3⟩

set_option maxRecDepth 100000 in
set_option maxHeartbeats 4000000 in
theorem term_cut {rb B : Nat} {inp : List Int} {fuel n : Nat} {s : St} {m : Mem} {W : World} (hg : Good rb B inp fuel s m W) {t : Core} {v : Array Value} (hin : CoreIn B W t v) {e : PEnv} {ge : Value} (he : EnvIn rb m W e ge) (h0 : s.left = 0) :
    Calls Tryd.prog 26 #[.pointer (some ⟨rb, 0, none⟩), .agg v, ge] W (EvPost rb B inp fuel m W (.cut, s)) := by
  obtain ⟨hb, hg3, hT⟩ := frame_at hg hin he
  obtain ⟨k0, n0, A2, n2, d2, A3, n3, d3, rfl⟩ := hin.shape
  obtain ⟨pk, rfl⟩ := he.shape
  have HP := Lib.hid (fun (V : World) (hV : Below W.heap.size W V) => (show EvPost rb B inp fuel m W (.cut, s) (.panicked (stopV 3)) V from EvPost.cut (Evo.below hV) (hg.below hV) (thrown_one _ _)))
  obtain ⟨Ai, ci, hr, _⟩ := hg3.run
  have r1 : (frameW W rb #[.int .i64 k0, .int .i64 n0, .slice A2 n2 d2, .slice A3 n3 d3] (.pointer pk)).cell? ⟨rb, 1, none⟩ = some (.int .i64 fuel) := by simp [World.cell?, hr]
  have r5 : (frameW W rb #[.int .i64 k0, .int .i64 n0, .slice A2 n2 d2, .slice A3 n3 d3] (.pointer pk)).cell? ⟨rb, 5, none⟩ = some (.int .i64 fuel) := by simp [World.cell?, hr, h0]
  have b0 := at_cell0 hT.r (i := 0) rfl
  simp only [List.getElem_toArray, List.getElem_cons_zero] at b0
  have HB := Lib.hid hb
  unfold frameW at r1 r5 b0 HB
  clear hb hg hg3 hT hin he hr
  go_enter Tryd.func26, Tryd.ntmps26
  go_wp2_with fail
  go_quiet (fail)
  go_wp2_with fail
  exact ⟨rfl, HP.out _ (below_drewN HB.out _)⟩
end Go.Proofs.YtnolhcdfknjncaaDoor
