/-
  1 texts of this seat in one: V32.
-/
import Derived.Test.YtnolhcdfknjncaaDoorY31
import Derived.Test.YtnolhcdfknjncaaDoorY27
import Derived.Test.YtnolhcdfknjncaaDoorQR
/-
  The document's run: a term: its frame; a cut, an int, a variable, a function.
-/
set_option linter.unusedVariables false
set_option linter.unusedSimpArgs false
namespace Go.Proofs.YtnolhcdfknjncaaDoor
open Go.RowKit

section
variable {X Y Y' : Nat → Prop} {B mb cb n : Nat} {inp : List Int} {fuel : FL} {s s1 : St} {cut stk rai : Bool} {x0 x1 x2 : Value} {W W' W1 W2 W3 V0 V w w' : World} {o : Out}
abbrev St.dec (s : St) : St := { s with left := s.left - 1 }
abbrev FL.dec (fuel : FL) : FL := ⟨fuel.f, fuel.lim - 1⟩
/-- a term's frame behind its step -/
structure TF (X : Nat → Prop) (B mb cb : Nat) (inp : List Int) (fuel : FL) (s : St) (W : World) (t : Core) (k nn : Int) (Ak : Option Addr) (lk ck : Nat) (Ac : Option Addr) (lc cc : Nat) (e : PEnv) (pv : Value) (w : World) : Prop where
  st : Stp B mb cb W w
  core : w.heap[W.heap.size]? = some (.cells #[.int .i64 k, .int .i64 nn, .slice Ak lk ck, .slice Ac lc cc] 26 (0, 0))
  box : w.heap[W.heap.size + 1]? = some (.cells #[.int .i64 0, .int .i64 0, .slice none 0 0] 65 (0, 0))
  go_ : RGo (Bx X (W.heap.size + 1)) B mb cb inp fuel.dec s.dec w
  env : EIn (Bx X (W.heap.size + 1)) s.fns.length s.cells.length w e pv
  cin : CoreIn B w t #[.int .i64 k, .int .i64 nn, .slice Ak lk ck, .slice Ac lc cc]
  hX : ∀ k, Bx X (W.heap.size + 1) k → k < w.heap.size
  hO : ∀ k, Own2 mb cb k → X k
  own : mb < W.heap.size ∧ cb < W.heap.size
  hB : B ≤ W.heap.size
  lim : fuel.dec.lim < fuel.f ∧ fuel.lim - 1 + 1 = fuel.lim
theorem rterm_frame (h : RGo X B mb cb inp fuel s W) (hX : ∀ k, X k → k < W.heap.size) {t : Core} {k nn : Int} {Ak Ac : Option Addr} {lk ck lc cc : Nat} (hc : CoreIn B W t #[.int .i64 k, .int .i64 nn, .slice Ak lk ck, .slice Ac lc cc]) {e : PEnv} {pv : Value} (he : EIn X s.fns.length s.cells.length W e pv) (hl : s.left ≠ 0)
    (V0 : World) (hV0 : ((W.alloc (.cells #[.int .i64 k, .int .i64 nn, .slice Ak lk ck, .slice Ac lc cc] 26)).alloc (.cells #[.int .i64 0, .int .i64 0, .slice none 0 0] 65)) = V0) :
    Calls Tryd.prog 44 #[.pointer (some ⟨mb, 0, none⟩)] V0 (fun en w => en = .returned (.bool true) ∧ TF X B mb cb inp fuel s W t k nn Ak lk ck Ac lc cc e pv w) ∧ V0.cell? ⟨cb, 0, none⟩ = some (.pointer (some ⟨mb, 0, none⟩)) := by
  obtain ⟨hb0, hq, hbx, hg0, hsz⟩ := frame2 h V0 hV0
  refine ⟨(rstep_any hg0).mono fun en w hp => ?_, hg0.cells.2.2.2.2.2.2.2.2.2.2⟩
  obtain ⟨hst, ⟨h0, _⟩ | ⟨_, rfl, hg⟩⟩ := hp
  · exact absurd h0 hl
  · have hlt := own_lt h
    have hno : ∀ b, W.heap.size ≤ b → ¬ Own2 mb cb b := fun b hb e => by rcases e with e | e <;> omega
    have hXO : ∀ k, Own2 mb cb k → Bx X (W.heap.size + 1) k := fun k hk => .inl (h.hX k hk)
    have hkx : KpX (Bx X (W.heap.size + 1)) V0 w := hst.kp.mono hXO
    have ha := h.askB
    have hlm := h.limB
    refine ⟨rfl, (Stp.below hb0 h.hBW).trans hst, hst.kp.same _ _ hq rfl (hno _ (Nat.le_refl _)), hst.kp.same _ _ hbx rfl (hno _ (Nat.le_succ _)), hg, ((he.bx (b := W.heap.size + 1) (by omega)).step (KpX.below hb0) (Nat.le_refl _) (Nat.le_refl _)).step hkx (Nat.le_refl _) (Nat.le_refl _), (hc.kept (hb0.mono h.hBW)).kept hst.bel, ?_, h.hX, hlt, h.hBW, by show fuel.lim - 1 < fuel.f; omega, by omega⟩
    intro k hk
    have := bx_lt hX hb0.size hsz k hk
    have := hst.kp.size
    omega
/-- a frame's result is handed back -/
theorem TF.ret {t : Core} {k nn : Int} {Ak Ac : Option Addr} {lk ck lc cc : Nat} {e : PEnv} {pv : Value} (h : TF X B mb cb inp fuel s W t k nn Ak lk ck Ac lc cc e pv w) {s1 : St} (hst : Stp B mb cb w W1) (hs : s.fns.length ≤ s1.fns.length ∧ s.cells.length ≤ s1.cells.length) {en : Ending} (hp : ROut (Bx X (W.heap.size + 1)) B mb cb inp fuel s1 o W1 en w') :
    ∃ k n A l d, en = .returned (.agg #[.int .i64 k, .int .i64 n, .slice A l d]) ∧ (w'.cell? ⟨W.heap.size + 1, 0, none⟩ = some (.int .i64 0) ∧ w'.cell? ⟨W.heap.size + 1, 1, none⟩ = some (.int .i64 0) ∧ w'.cell? ⟨W.heap.size + 1, 2, none⟩ = some (.slice none 0 0) ∧ (∀ i, w'.frozen? ⟨W.heap.size + 1, i, none⟩ = false)) ∧
      ROut X B mb cb inp fuel s o W (.returned (.agg #[.int .i64 k, .int .i64 n, .slice A l d])) (((w'.setCell ⟨W.heap.size + 1, 0, none⟩ (.int .i64 k)).setCell ⟨W.heap.size + 1, 1, none⟩ (.int .i64 n)).setCell ⟨W.heap.size + 1, 2, none⟩ (.slice A l d)) := by
  have hno : ¬ Own2 mb cb (W.heap.size + 1) := fun e => by have := h.own; rcases e with e | e <;> omega
  exact ROut.box h.hO h.hB h.own (Nat.le_succ _) (hst.kp.same _ _ h.box rfl hno) (h.st.trans hst) hs hp
theorem TF.ret' {t : Core} {k nn : Int} {Ak Ac : Option Addr} {lk ck lc cc : Nat} {e : PEnv} {pv : Value} (h : TF X B mb cb inp fuel s W t k nn Ak lk ck Ac lc cc e pv w) {s1 : St} (hst : Stp B mb cb w W1) (hs : s.fns.length ≤ s1.fns.length ∧ s.cells.length ≤ s1.cells.length) {k' n' : Int} {A' : Option Addr} {l' d' : Nat} (hp : ROut (Bx X (W.heap.size + 1)) B mb cb inp fuel s1 o W1 (.returned (.agg #[.int .i64 k', .int .i64 n', .slice A' l' d'])) w') :
    (w'.cell? ⟨W.heap.size + 1, 0, none⟩ = some (.int .i64 0) ∧ w'.cell? ⟨W.heap.size + 1, 1, none⟩ = some (.int .i64 0) ∧ w'.cell? ⟨W.heap.size + 1, 2, none⟩ = some (.slice none 0 0) ∧ (∀ i, w'.frozen? ⟨W.heap.size + 1, i, none⟩ = false)) ∧
      ROut X B mb cb inp fuel s o W (.returned (.agg #[.int .i64 k', .int .i64 n', .slice A' l' d'])) (((w'.setCell ⟨W.heap.size + 1, 0, none⟩ (.int .i64 k')).setCell ⟨W.heap.size + 1, 1, none⟩ (.int .i64 n')).setCell ⟨W.heap.size + 1, 2, none⟩ (.slice A' l' d')) := by
  have hno : ¬ Own2 mb cb (W.heap.size + 1) := fun e => by have := h.own; rcases e with e | e <;> omega
  exact ROut.box' h.hO h.hB h.own (Nat.le_succ _) (hst.kp.same _ _ h.box rfl hno) (h.st.trans hst) hs hp
/-- a frame's own cells -/
theorem TF.cells {t : Core} {k nn : Int} {Ak Ac : Option Addr} {lk ck lc cc : Nat} {e : PEnv} {pv : Value} (h : TF X B mb cb inp fuel s W t k nn Ak lk ck Ac lc cc e pv w) : w.cell? ⟨W.heap.size, 0, none⟩ = some (.int .i64 k) ∧ w.cell? ⟨W.heap.size, 1, none⟩ = some (.int .i64 nn) ∧ w.cell? ⟨W.heap.size, 2, none⟩ = some (.slice Ak lk ck) ∧ w.cell? ⟨W.heap.size, 3, none⟩ = some (.slice Ac lc cc) ∧ w.cell? ⟨cb, 0, none⟩ = some (.pointer (some ⟨mb, 0, none⟩)) ∧ W.heap.size + 1 < w.heap.size ∧ (∀ i, w.frozen? ⟨W.heap.size + 1, i, none⟩ = false) :=
  ⟨cell_block h.core rfl, cell_block h.core rfl, cell_block h.core rfl, cell_block h.core rfl, h.go_.cells.2.2.2.2.2.2.2.2.2.2, (Array.getElem?_eq_some_iff.1 h.box).1, fun i => by simp [World.frozen?, h.box]⟩
theorem ROut.upd {e : Ending} (h : ROut X B mb cb inp fuel.dec s o W e W') (h1 : fuel.lim - 1 + 1 = fuel.lim) (h2 : fuel.lim ≤ fuel.f) : ROut X B mb cb inp fuel s o W e W' := h.lim_ (l := fuel.lim) (by show fuel.lim - 1 ≤ _; omega) h2
theorem ROut.updu {e : Ending} (h : ROut X B mb cb inp fuel.dec.up s o W e W') (h1 : fuel.lim - 1 + 1 = fuel.lim) : ROut X B mb cb inp fuel s o W e W' := by
  have : fuel.dec.up = fuel := by cases fuel; simp only [FL.up, FL.dec] at h1 ⊢; rw [h1]
  rwa [this] at h
theorem ev_succ {t : Core} {e : PEnv} (hl : s.left ≠ 0) : ev inp (n + 1) t e s = bodyP inp (ev inp n) t e s.dec := by simp [ev, hl]

set_option maxRecDepth 100000 in
set_option maxHeartbeats 2000000 in
theorem rterm_cut (h : RGo X B mb cb inp fuel s W) (hl : s.left = 0) {k nn : Int} {Ak Ac : Option Addr} {lk ck lc cc : Nat} (pq : Option Addr) :
    Calls Tryd.prog 28 #[.pointer (some ⟨cb, 0, none⟩), .agg #[.int .i64 k, .int .i64 nn, .slice Ak lk ck, .slice Ac lc cc], .pointer pq] W (ROut X B mb cb inp fuel s (.cut, s) W) := by
  generalize hV0 : ((W.alloc (.cells #[.int .i64 k, .int .i64 nn, .slice Ak lk ck, .slice Ac lc cc] 26)).alloc (.cells #[.int .i64 0, .int .i64 0, .slice none 0 0] 65)) = V0
  obtain ⟨hb0, hq, hbx, hg0, hsz⟩ := frame2 h V0 hV0
  have mc := hg0.cells.2.2.2.2.2.2.2.2.2.2
  have hS : Calls Tryd.prog 44 #[.pointer (some ⟨mb, 0, none⟩)] V0 (fun e w' => e = .returned (.bool false) ∧ (w'.cell? ⟨W.heap.size + 1, 0, none⟩ = some (.int .i64 0) ∧ w'.cell? ⟨W.heap.size + 1, 1, none⟩ = some (.int .i64 0) ∧ w'.cell? ⟨W.heap.size + 1, 2, none⟩ = some (.slice none 0 0) ∧ (∀ i, w'.frozen? ⟨W.heap.size + 1, i, none⟩ = false)) ∧
      ROut X B mb cb inp fuel s (.cut, s) W (.returned (.agg #[.int .i64 0, .int .i64 0, .slice none 0 0])) (((w'.setCell ⟨W.heap.size + 1, 0, none⟩ (.int .i64 0)).setCell ⟨W.heap.size + 1, 1, none⟩ (.int .i64 0)).setCell ⟨W.heap.size + 1, 2, none⟩ (.slice none 0 0))) := by
    refine (rstep_any hg0).mono fun e w' hp => ?_
    obtain ⟨hst, ⟨h0, rfl, hg⟩ | ⟨h0, _⟩⟩ := hp
    · exact ⟨rfl, ROut.box' (X := X) (fuel := fuel) (s := s) (s1 := s) (o := (.cut, s)) (W := W) (W1 := V0) (W2 := w') (b := W.heap.size + 1) (k := 0) (n := 0) (A := none) (l := 0) (d := 0) h.hX h.hBW (own_lt h) (Nat.le_succ _) hbx (Stp.below hb0 h.hBW) ⟨Nat.le_refl _, Nat.le_refl _⟩ ⟨hst, ⟨Nat.le_refl _, Nat.le_refl _⟩, _, _, _, _, _, rfl, hg⟩⟩
    · exact absurd hl h0
  have HS := Lib.hid hS
  clear hS
  generalize ((Res.cut, s) : Out) = o at *
  clear h hb0 hq hbx hg0 hsz hl
  go_enter Tryd.func28, Tryd.ntmps28
  go_wp2_with (go_at_call 44; refine HS.out.mono ?_; rintro e w' ⟨rfl, ⟨f0, f1, f2, ff⟩, hR⟩; have HR := Lib.hid hR; clear hR)
  exact bodyPost_ret (v := zeroV) (by simp [results, Tryd.results28, go_sem, f0, f1, f2]) rfl HR.out
set_option maxRecDepth 100000 in
set_option maxHeartbeats 2000000 in
theorem rterm_int (h : RGo X B mb cb inp fuel s W) (hX : ∀ k, X k → k < W.heap.size) {t : Core} {nn : Int} {Ak Ac : Option Addr} {lk ck lc cc : Nat} (hc : CoreIn B W t #[.int .i64 2, .int .i64 nn, .slice Ak lk ck, .slice Ac lc cc]) {e : PEnv} {pq : Option Addr} (he : EIn X s.fns.length s.cells.length W e (.pointer pq)) (hl : s.left ≠ 0) :
    Calls Tryd.prog 28 #[.pointer (some ⟨cb, 0, none⟩), .agg #[.int .i64 2, .int .i64 nn, .slice Ak lk ck, .slice Ac lc cc], .pointer pq] W (ROut X B mb cb inp fuel s (.val (.int nn), s.dec) W) := by
  generalize hV0 : ((W.alloc (.cells #[.int .i64 2, .int .i64 nn, .slice Ak lk ck, .slice Ac lc cc] 26)).alloc (.cells #[.int .i64 0, .int .i64 0, .slice none 0 0] 65)) = V0
  obtain ⟨hS, mc⟩ := rterm_frame h hX hc he hl V0 hV0
  have HS := Lib.hid hS
  have hlm := h.limB
  have HP := Lib.hid (fun (w V : World) (htf : TF X B mb cb inp fuel s W t 2 nn Ak lk ck Ac lc cc e (.pointer pq) w) (hb : Below w.heap.size w V) =>
    htf.ret' (s1 := s.dec) (o := (.val (.int nn), s.dec)) (Stp.refl w) ⟨Nat.le_refl _, Nat.le_refl _⟩ (ROut.upd ⟨Stp.below hb htf.go_.hBW, ⟨Nat.le_refl _, Nat.le_refl _⟩, 1, nn, none, 0, 0, rfl, htf.go_.below hb, .int _⟩ htf.lim.2 hlm))
  generalize ((Res.val (.int nn), s.dec) : Out) = o at *
  clear h hX hc he hl hS hlm
  go_enter Tryd.func28, Tryd.ntmps28
  go_wp2_with (first
    | (go_at_call 44; refine HS.out.mono ?_; rintro en w1 ⟨rfl, htf⟩; obtain ⟨q0, q1, q2, q3, q4, q5, q6⟩ := htf.cells; have HTF := Lib.hid htf; clear htf)
    | (go_at_call 47; refine (vint_any _ _).mono ?_; rintro en w2 ⟨rfl, hbi⟩; obtain ⟨⟨f0, f1, f2, ff⟩, hR⟩ := HP.out _ _ HTF.out hbi; have HR := Lib.hid hR; clear hR))
  exact bodyPost_ret (v := .agg #[.int .i64 1, .int .i64 nn, .slice none 0 0]) (by simp [results, Tryd.results28, go_sem, f0, f1, f2]) rfl HR.out
end
end Go.Proofs.YtnolhcdfknjncaaDoor
