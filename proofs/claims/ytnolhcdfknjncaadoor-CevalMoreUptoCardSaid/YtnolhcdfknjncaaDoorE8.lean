/-
  The program's evaluator: primitives.
-/
import Derived.Test.YtnolhcdfknjncaaDoorE7
set_option linter.unusedVariables false
set_option linter.unusedSimpArgs false
namespace Go.Proofs.YtnolhcdfknjncaaDoor
open Go.RowKit

section
variable {rb B : Nat} {inp : List Int} {fuel n : Nat} {s : St} {m : Mem} {W : World}

theorem prim_ref (hg : Good rb B inp fuel s m W) {a : PV} {T : TypeId} {x : Value} (ha : RepV rb m W a (.iface T x)) {g cap : Nat} (c0 : W.cell? ⟨g, 0, none⟩ = some (.iface T x)) :
    Calls Tryd.prog 43 #[.pointer (some ⟨rb, 0, none⟩), .int .i64 10, .slice (some ⟨g, 0, none⟩) 1 cap] W (EvPost rb B inp fuel m W (.val (.ref s.cells.length), { s with cells := s.cells ++ [a] })) := by
  obtain ⟨h1, h2, h3⟩ := hg.addCell ha
  have HP := Lib.hid (EvPost.val h2 h1 h3)
  clear h1 h2 h3 hg ha
  go_enter Tryd.func43, Tryd.ntmps43
  go_wp2_with fail
  go_ret
  exact HP.out

theorem prim_get_ref (hg : Good rb B inp fuel s m W) {i b : Nat} (hb : m.ca[i]? = some b) {g cap : Nat} (c0 : W.cell? ⟨g, 0, none⟩ = some (.iface 126 (.pointer (some ⟨b, 0, none⟩)))) :
    Calls Tryd.prog 43 #[.pointer (some ⟨rb, 0, none⟩), .int .i64 11, .slice (some ⟨g, 0, none⟩) 1 cap] W (EvPost rb B inp fuel m W (.val (s.cells[i]?.getD default), s)) := by
  have hi : i < s.cells.length := by rw [← hg.calen]; exact (List.getElem?_eq_some_iff.1 hb).1
  obtain ⟨b', gv, h1, h2, h3⟩ := hg.cells i hi
  rw [hb] at h1; cases h1
  obtain ⟨Tv, xv, rfl⟩ := h3.shape
  have cb : W.cell? ⟨b, 0, none⟩ = some (.iface Tv xv) := by simp [World.cell?, h2]
  have hv : s.cells[i]?.getD default = s.cells[i] := by simp [hi]
  rw [hv]
  have HP := Lib.hid (EvPost.val (Evo.refl _ _ _) hg h3)
  clear hv h2 h3 hg hb
  go_enter Tryd.func43, Tryd.ntmps43
  go_wp2_with fail
  go_ret
  exact HP.out

theorem prim_cell_other {p : Int} {k : Nat} (hp : (p = 11 ∧ k = 1) ∨ (p = 12 ∧ k = 2)) (T : TypeId) (hT : T = 87 ∨ T = 95 ∨ T = 88) (x : Value) {g cap : Nat} (c0 : W.cell? ⟨g, 0, none⟩ = some (.iface T x)) (r : Value) :
    Calls Tryd.prog 43 #[r, .int .i64 p, .slice (some ⟨g, 0, none⟩) k cap] W fun e w' => e = .panicked (stopV 4) ∧ W = w' := by
  rcases hp with ⟨rfl, rfl⟩ | ⟨rfl, rfl⟩
  all_goals
    rcases hT with rfl | rfl | rfl
    all_goals
      go_enter Tryd.func43, Tryd.ntmps43
      go_wp2_with (go_at_call 40; refine (stuck_any _).mono ?_; rintro e w' ⟨rfl, rfl⟩)
      exact ⟨rfl, rfl, rfl⟩

theorem prim_set_ref (hg : Good rb B inp fuel s m W) {i b : Nat} (hb : m.ca[i]? = some b) {a : PV} {T : TypeId} {x : Value} (ha : RepV rb m W a (.iface T x)) {g cap : Nat} (c0 : W.cell? ⟨g, 0, none⟩ = some (.iface 126 (.pointer (some ⟨b, 0, none⟩)))) (c1 : W.cell? ⟨g, 1, none⟩ = some (.iface T x)) :
    Calls Tryd.prog 43 #[.pointer (some ⟨rb, 0, none⟩), .int .i64 12, .slice (some ⟨g, 0, none⟩) 2 cap] W (EvPost rb B inp fuel m W (.val (.int 0), { s with cells := s.cells.set i a })) := by
  have hi : i < s.cells.length := by rw [← hg.calen]; exact (List.getElem?_eq_some_iff.1 hb).1
  obtain ⟨b', gv, h1, h2, h3⟩ := hg.cells i hi
  rw [hb] at h1; cases h1
  have cb : W.cell? ⟨b, 0, none⟩ = some gv := by simp [World.cell?, h2]
  have fb : W.frozen? ⟨b, 0, none⟩ = false := by simp [World.frozen?, h2]
  obtain ⟨q1, q2⟩ := hg.setRef hb ha
  have HP := Lib.hid (EvPost.val q2 q1 (.int 0))
  clear h2 h3 hg hb q1 q2 ha
  go_enter Tryd.func43, Tryd.ntmps43
  go_wp2_with fail
  go_ret
  exact HP.out

theorem prim_read_none (hg : Good rb B inp fuel s m W) (hp : inp.length ≤ s.asked) (v : Value) :
    Calls Tryd.prog 43 #[.pointer (some ⟨rb, 0, none⟩), .int .i64 14, v] W (EvPost rb B inp fuel m W (.raised (.int 1), { s with asked := s.asked + 1 })) := by
  have hg' := hg.past hp
  obtain ⟨Ai, ci, hr, hi, hci⟩ := hg.run
  have h1 : inp.drop s.asked = [] := List.drop_eq_nil_iff.2 hp
  have cb : W.cell? ⟨rb, 0, none⟩ = some (.slice Ai 0 ci) := by simp [World.cell?, hr, h1]
  have HP := Lib.hid (EvPost.raised (Evo.refl rb m W) hg' (.int 1) ⟨1, rfl⟩ (thrown_one _ _))
  clear hg hg' hr hi hci h1
  go_enter Tryd.func43, Tryd.ntmps43
  go_wp2_with fail
  exact ⟨rfl, HP.out⟩

theorem prim_read_some (hg : Good rb B inp fuel s m W) (hp : s.asked < inp.length) (v : Value) :
    Calls Tryd.prog 43 #[.pointer (some ⟨rb, 0, none⟩), .int .i64 14, v] W (EvPost rb B inp fuel m W (.val (.int (wrap31 (nth inp s.asked))), { s with asked := s.asked + 1 })) := by
  obtain ⟨Ai, ci, hr, hi, hci⟩ := hg.run
  have hdrop : inp.drop s.asked = nth inp s.asked :: inp.drop (s.asked + 1) := by
    rw [nth_eq _ hp]; exact List.drop_eq_getElem_cons hp
  have hfb : W.frozen? ⟨rb, 0, none⟩ = false := by simp [World.frozen?, hr]
  have hlen : (inp.drop s.asked).length = (inp.drop (s.asked + 1)).length + 1 := by rw [hdrop]; rfl
  obtain ⟨b, o, rfl, hlt, hc⟩ := hi.at_ (by omega)
  have cb : W.cell? ⟨rb, 0, none⟩ = some (.slice (some ⟨b, o, none⟩) ((inp.drop (s.asked + 1)).length + 1) ci) := by simp [World.cell?, hr, hlen]
  have c0 : W.cell? ⟨b, o, none⟩ = some (.int .i64 (nth inp s.asked)) := by
    have := hc 0 (by omega)
    rw [hdrop] at this
    simpa [nth] using this
  have h64 := hi.1
  have hci' : (inp.drop (s.asked + 1)).length + 1 ≤ ci := by omega
  have hL : (inp.drop (s.asked + 1)).length * 8 ≤ 140737488351232 := by omega
  have hc' : ∀ j, j < (inp.drop (s.asked + 1)).length → W.cell? ⟨b, o + 1 + j, none⟩ = some (.int .i64 (nth (inp.drop (s.asked + 1)) j)) := fun j hj => by
    have := hc (j + 1) (by omega)
    rw [hdrop] at this
    rw [show o + 1 + j = o + (j + 1) by omega, this]
    simp [nth]
  have HP := Lib.hid (fun (A' : Option Addr) (c' : Nat) (hA : 0 < (inp.drop (s.asked + 1)).length → A' = some ⟨b, o + 1, none⟩) (hcc : (inp.drop (s.asked + 1)).length ≤ c') =>
    (show EvPost rb B inp fuel m W (.val (.int (wrap31 (nth inp s.asked))), { s with asked := s.asked + 1 }) (.returned (.iface 87 (.int .i64 (wrap31 (nth inp s.asked))))) (W.setCell ⟨rb, 0, none⟩ (.slice A' (inp.drop (s.asked + 1)).length c')) from by
      obtain ⟨q1, q2⟩ := hg.read (Ai := A') (ci := c') (⟨hL, by
        by_cases h0 : inp.drop (s.asked + 1) = []
        · exact .inl h0
        · have := List.length_pos_iff.2 h0
          exact .inr ⟨b, o + 1, hA this, hlt, hc'⟩⟩) hcc
      exact .val q2 q1 (.int _)))
  generalize (inp.drop (s.asked + 1)).length = L at *
  generalize EvPost rb B inp fuel m W (.val (.int (wrap31 (nth inp s.asked))), { s with asked := s.asked + 1 }) = PP at *
  generalize nth inp s.asked = z at *
  have hL0 : ((L : Int) + 1 == 0) = false := by simp; omega
  have hL1 : (1 : Int) ≤ (L : Int) + 1 := by omega
  have hL2 : (L : Int) + 1 ≤ (ci : Int) := by omega
  have hL3 : (0 : Int) < (L : Int) + 1 := by omega
  clear hg hp hr hi hc hc' hdrop hlen hci h64
  go_enter Tryd.func43, Tryd.ntmps43
  go_wp2_with (go_at_call 70; refine (wrap_any _ _).mono ?_; rintro e w' ⟨rfl, rfl⟩)
  all_goals exact HP.out _ _ (by intro h; first | rfl | omega) (by omega)

theorem numOf_some {a : PV} {k : Int} (h : numOf a = some k) : a = .int k := by
  cases a <;> simp [numOf] at h; rw [h]

theorem prim_raise (hg : Good rb B inp fuel s m W) {a : PV} {T : TypeId} {x : Value} (ha : RepV rb m W a (.iface T x)) {g cap : Nat} (c0 : W.cell? ⟨g, 0, none⟩ = some (.iface T x)) :
    Calls Tryd.prog 43 #[.pointer (some ⟨rb, 0, none⟩), .int .i64 15, .slice (some ⟨g, 0, none⟩) 1 cap] W (EvPost rb B inp fuel m W (match keyOf a with | some _ => (.raised a, s) | none => (.stuck, s))) := by
  cases hk : keyOf a with
  | some k =>
    have HK := Lib.hid ((key_any ha).mono (R' := fun e w' => e = .returned (.int .i64 k) ∧ W = w') (by
      rintro e w' (⟨n, hn, rfl, rfl⟩ | ⟨hn, rfl, rfl⟩)
      · rw [hk] at hn; cases hn; exact ⟨rfl, rfl⟩
      · rw [hk] at hn; cases hn))
    have HP := Lib.hid (EvPost.raised (Evo.refl rb m W) hg ha ⟨k, hk⟩ (thrown_one _ _))
    clear hg ha hk
    go_enter Tryd.func43, Tryd.ntmps43
    go_wp2_with (go_at_call 37; refine HK.out.mono ?_; rintro e w' ⟨rfl, rfl⟩)
    exact ⟨rfl, HP.out⟩
  | none =>
    have HK := Lib.hid ((key_any ha).mono (R' := fun e w' => e = .panicked (stopV 4) ∧ W = w') (by
      rintro e w' (⟨n, hn, rfl, rfl⟩ | ⟨hn, rfl, rfl⟩)
      · rw [hk] at hn; cases hn
      · exact ⟨rfl, rfl⟩))
    have HP := Lib.hid (EvPost.stuck (Evo.refl rb m W) hg (thrown_one _ _))
    clear hg ha hk
    go_enter Tryd.func43, Tryd.ntmps43
    go_wp2_with (go_at_call 37; refine HK.out.mono ?_; rintro e w' ⟨rfl, rfl⟩)
    exact ⟨rfl, HP.out⟩

end
end Go.Proofs.YtnolhcdfknjncaaDoor
