/-
  The program's evaluator: calls.
-/
import Derived.Test.YtnolhcdfknjncaaDoorE4
set_option linter.unusedVariables false
set_option linter.unusedSimpArgs false
namespace Go.Proofs.YtnolhcdfknjncaaDoor
open Go.RowKit
set_option maxRecDepth 100000 in
set_option maxHeartbeats 400000 in
theorem call_fn {rb B : Nat} {inp : List Int} {fuel n : Nat} (hok : TermOk rb B inp fuel n) (i : Nat) (a : PV) (s : St) (m : Mem) (W : World) (gf ga : Value) (hf : RepV rb m W (.fn i) gf) (ha : RepV rb m W a ga) (hg : Good rb B inp fuel s m W) (hn : s.left < n) :
    Calls Tryd.prog 41 #[.pointer (some ⟨rb, 0, none⟩), gf, ga] W (EvPost rb B inp fuel m W (callP (ev inp n) (.fn i) a s)) := by
  cases hf with
  | @fn i b hb =>
    have hlen : i < s.fns.length := by rw [← hg.falen]; exact (List.getElem?_eq_some_iff.1 hb).1
    obtain ⟨b', c0, c1, c2, c3, kp, h1, h2, h3, h4, h5⟩ := hg.fns i hlen
    rw [hb] at h1
    cases h1
    obtain ⟨Ta, xa, rfl⟩ := ha.shape
    obtain ⟨pk, rfl⟩ := h5.shape
    have e0 := at_cell0 h2 (i := 0) rfl
    have e1 := at_cell0 h2 (i := 1) rfl
    have e2 := at_cell0 h2 (i := 2) rfl
    have e3 := at_cell0 h2 (i := 3) rfl
    have e4 := at_cell0 h2 (i := 4) rfl
    have e5 := at_cell0 h2 (i := 5) rfl
    simp only [List.getElem_toArray, List.getElem_cons_zero, List.getElem_cons_succ] at e0 e1 e2 e3 e4 e5
    have hcall : callP (ev inp n) (.fn i) a s = ev inp n s.fns[i].body ((s.fns[i].param, a) :: s.fns[i].env) s := by
      simp [callP, List.getElem?_eq_getElem hlen]
    rw [hcall]
    have hk1 : Evo rb m m W (W.alloc (.cells #[.int .i64 s.fns[i].param, .iface Ta xa, .pointer pk] 93)) := Evo.alloc _ _ _ _
    have hg1 := hg.below ((Below.refl _ _).alloc (Nat.le_refl _) (.cells #[.int .i64 s.fns[i].param, .iface Ta xa, .pointer pk] 93))
    have henv : EnvIn rb m (W.alloc (.cells #[.int .i64 s.fns[i].param, .iface Ta xa, .pointer pk] 93)) ((s.fns[i].param, a) :: s.fns[i].env) (.pointer (some ⟨W.heap.size, 0, none⟩)) :=
      .cons (at_new (fun k hk => hg.apartLt hk) _ _) (ha.evo hk1) (h5.evo hk1)
    have HC := Lib.hid (fun (V : World) (hV : Below (W.alloc (.cells #[.int .i64 s.fns[i].param, .iface Ta xa, .pointer pk] 93)).heap.size (W.alloc (.cells #[.int .i64 s.fns[i].param, .iface Ta xa, .pointer pk] 93)) V) =>
      (hok _ _ _ m V #[c0, c1, c2, c3] _ (h3.stay ((hg.stay hk1).trans (hg1.stay (Evo.below hV)))) h4 (henv.evo (Evo.below hV)) (hg1.below hV) hn).mono fun e V' h => h.from_ (hk1.trans (Evo.below hV)))
    generalize ev inp n s.fns[i].body ((s.fns[i].param, a) :: s.fns[i].env) s = o at HC ⊢
    generalize s.fns[i].param = pp at *
    have HS := Lib.hid (fun (V : World) (m' : Mem) (hE : Evo rb m m' W V) => (show V.cell? ⟨b, 0, none⟩ = some (.int .i64 pp) ∧ V.cell? ⟨b, 1, none⟩ = some c0 ∧ V.cell? ⟨b, 2, none⟩ = some c1 ∧ V.cell? ⟨b, 3, none⟩ = some c2 ∧ V.cell? ⟨b, 4, none⟩ = some c3 ∧ V.cell? ⟨b, 5, none⟩ = some (.pointer pk) from
      ⟨at_cell0 (h2.evo hE) rfl, at_cell0 (h2.evo hE) rfl, at_cell0 (h2.evo hE) rfl, at_cell0 (h2.evo hE) rfl, at_cell0 (h2.evo hE) rfl, at_cell0 (h2.evo hE) rfl⟩))
    clear hcall hok hk1 hg1 henv h2 h3 h4 h5 ha
    go_enter Tryd.func41, Tryd.ntmps41
    go_wp2_with fail
    go_region_held2 (fun w' => w'.cell? ⟨b, 0, none⟩ = some (.int .i64 pp) ∧ w'.cell? ⟨b, 1, none⟩ = some c0 ∧ w'.cell? ⟨b, 2, none⟩ = some c1 ∧ w'.cell? ⟨b, 3, none⟩ = some c2 ∧ w'.cell? ⟨b, 4, none⟩ = some c3 ∧ w'.cell? ⟨b, 5, none⟩ = some (.pointer pk))
      (first | exact HS.out _ _ (Evo.refl _ _ _).drew | exact HS.out _ _ ((Evo.refl _ _ _).drew.trans (Evo.alloc _ _ _ _)) | exact HS.out _ _ hEV)
      ((go_at_call 26; refine (HC.out _ ?_).mono ?_; (exact (Below.refl _ _).drew); rintro e w' h; obtain ⟨mE, hEV⟩ := h.evo; rcases h.ends with ⟨g, rfl, hP⟩ | ⟨ch, rfl, hP⟩; rotate_left; exact ⟨rfl, hP⟩))
    all_goals (go_wp2_with fail; go_ret; exact hP)

theorem call_other {rb B : Nat} {inp : List Int} {fuel n : Nat} (T : TypeId) (hT : T = 87 ∨ T = 95 ∨ T = 126) (x ga : Value) (r : Value) (W : World) :
    Calls Tryd.prog 41 #[r, .iface T x, ga] W fun e w' => e = .panicked (stopV 4) ∧ W = w' := by
  rcases hT with rfl | rfl | rfl
  all_goals
    go_enter Tryd.func41, Tryd.ntmps41
    go_wp2_with (go_at_call 40; refine (stuck_any _).mono ?_; rintro e w' ⟨rfl, rfl⟩)
    exact ⟨rfl, rfl, rfl⟩

theorem call_any {rb B : Nat} {inp : List Int} {fuel n : Nat} (hok : TermOk rb B inp fuel n) (f a : PV) (s : St) (m : Mem) (W : World) (gf ga : Value) (hf : RepV rb m W f gf) (ha : RepV rb m W a ga) (hg : Good rb B inp fuel s m W) (hn : s.left < n) :
    Calls Tryd.prog 41 #[.pointer (some ⟨rb, 0, none⟩), gf, ga] W (EvPost rb B inp fuel m W (callP (ev inp n) f a s)) := by
  have hst : ∀ e w', e = .panicked (stopV 4) ∧ W = w' → EvPost rb B inp fuel m W (.stuck, s) e w' := fun e w' h => by
    obtain ⟨rfl, rfl⟩ := h
    exact .stuck (Evo.refl _ _ _) hg (thrown_one _ _)
  cases f with
  | fn i => exact call_fn hok i a s m W gf ga hf ha hg hn
  | int k => cases hf; exact (call_other (rb := rb) (B := B) (inp := inp) (fuel := fuel) (n := n) _ (.inl rfl) _ _ _ W).mono hst
  | blk t l => cases hf; exact (call_other (rb := rb) (B := B) (inp := inp) (fuel := fuel) (n := n) _ (.inr (.inl rfl)) _ _ _ W).mono hst
  | ref i => cases hf; exact (call_other (rb := rb) (B := B) (inp := inp) (fuel := fuel) (n := n) _ (.inr (.inr rfl)) _ _ _ W).mono hst
end Go.Proofs.YtnolhcdfknjncaaDoor
