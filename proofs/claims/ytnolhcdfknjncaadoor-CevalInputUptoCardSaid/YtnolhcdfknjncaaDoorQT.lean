/-
  5 texts of this seat in one: V33 V34 V35 V36 V37.
-/
import Derived.Test.YtnolhcdfknjncaaDoorY32
/-
  The document's run: a term: a variable, a function, Kids' values.
-/
set_option linter.unusedVariables false
set_option linter.unusedSimpArgs false
namespace Go.Proofs.YtnolhcdfknjncaaDoor
open Go.RowKit

section
variable {X Y Y' : Nat → Prop} {B mb cb n : Nat} {inp : List Int} {fuel : FL} {s s1 : St} {cut stk rai : Bool} {x0 x1 x2 : Value} {W W' W1 W2 W3 V0 V w w' : World} {o : Out}
set_option maxRecDepth 100000 in
set_option maxHeartbeats 2000000 in
theorem rterm_var (h : RGo X B mb cb inp fuel s W) (hX : ∀ k, X k → k < W.heap.size) {t : Core} {nn : Int} {Ak Ac : Option Addr} {lk ck lc cc : Nat} (hc : CoreIn B W t #[.int .i64 1, .int .i64 nn, .slice Ak lk ck, .slice Ac lc cc]) {e : PEnv} {pq : Option Addr} (he : EIn X s.fns.length s.cells.length W e (.pointer pq)) (hl : s.left ≠ 0) :
    Calls Tryd.prog 28 #[.pointer (some ⟨cb, 0, none⟩), .agg #[.int .i64 1, .int .i64 nn, .slice Ak lk ck, .slice Ac lc cc], .pointer pq] W (ROut X B mb cb inp fuel s (match lookup e nn with | some v => (.val v, s.dec) | none => (.stuck, s.dec)) W) := by
  generalize hV0 : ((W.alloc (.cells #[.int .i64 1, .int .i64 nn, .slice Ak lk ck, .slice Ac lc cc] 26)).alloc (.cells #[.int .i64 0, .int .i64 0, .slice none 0 0] 65)) = V0
  obtain ⟨hS, mc⟩ := rterm_frame h hX hc he hl V0 hV0
  have HS := Lib.hid hS
  have hlm := h.limB
  rcases hlo : lookup e nn with _ | v
  · have HF := Lib.hid (fun (w : World) (htf : TF X B mb cb inp fuel s W t 1 nn Ak lk ck Ac lc cc e (.pointer pq) w) => (rfind_any htf.env nn).mono fun en w' hp => (show en = .returned (.tuple #[zeroV, .bool false]) ∧ Below w.heap.size w w' from by
      obtain ⟨hb, ⟨v, a, b, c, h1, _⟩ | ⟨_, rfl⟩⟩ := hp
      · rw [hlo] at h1; cases h1
      · exact ⟨rfl, hb⟩))
    have HP := Lib.hid (fun (w V : World) (htf : TF X B mb cb inp fuel s W t 1 nn Ak lk ck Ac lc cc e (.pointer pq) w) (hb : Below w.heap.size w V) => (rstop_any (htf.go_.below hb)).mono fun en w' hp => htf.ret (s1 := s.dec) (Stp.below hb htf.go_.hBW) ⟨Nat.le_refl _, Nat.le_refl _⟩ (ROut.upd (ROut.stop hp) htf.lim.2 hlm))
    clear h hX hc he hl hS hlm hlo
    dsimp only
    generalize ((Res.stuck, s.dec) : Out) = o at *
    go_enter Tryd.func28, Tryd.ntmps28
    go_wp2_with (first
      | (go_at_call 44; refine HS.out.mono ?_; rintro en w1 ⟨rfl, htf⟩; obtain ⟨q0, q1, q2, q3, q4, q5, q6⟩ := htf.cells; have HTF := Lib.hid htf; clear htf)
      | (go_at_call 45; refine (HF.out _ HTF.out).mono ?_; rintro en w2 ⟨rfl, hb2⟩; have HSS := Lib.hid (HP.out _ _ HTF.out (hb2.alloc hb2.size (.cells #[.int .i64 0, .int .i64 0, .slice none 0 0] 65))); have p4 := cell_behind hb2 q4; have p5 := lt_of_cell p4)
      | (go_at_call 46; refine HSS.out.mono ?_; rintro e w' ⟨k, n, A, l, d, rfl, ⟨f0, f1, f2, ff⟩, hR⟩; have HR := Lib.hid hR; clear hR))
    exact bodyPost_ret (v := .agg #[.int .i64 k, .int .i64 n, .slice A l d]) (by simp [results, Tryd.results28, go_sem, f0, f1, f2]) rfl HR.out
  · have HF := Lib.hid (fun (w : World) (htf : TF X B mb cb inp fuel s W t 1 nn Ak lk ck Ac lc cc e (.pointer pq) w) => (rfind_any htf.env nn).mono fun en w' hp => (show ∃ k n A l d, en = .returned (.tuple #[.agg #[.int .i64 k, .int .i64 n, .slice A l d], .bool true]) ∧ Below w.heap.size w w' ∧ VIn (Bx X (W.heap.size + 1)) s.fns.length s.cells.length w' v (.int .i64 k) (.int .i64 n) (.slice A l d) from by
      obtain ⟨hb, ⟨v', a, b, c, h1, rfl, hv⟩ | ⟨h1, _⟩⟩ := hp
      · rw [hlo] at h1; cases h1
        obtain ⟨k, n, A, l, d, rfl, rfl, rfl⟩ := hv.shape
        exact ⟨k, n, A, l, d, rfl, hb, hv⟩
      · rw [hlo] at h1; cases h1))
    have HP := Lib.hid (fun (w w2 V : World) (k n : Int) (A : Option Addr) (l d : Nat) (htf : TF X B mb cb inp fuel s W t 1 nn Ak lk ck Ac lc cc e (.pointer pq) w) (hb2 : Below w.heap.size w w2) (hv : VIn (Bx X (W.heap.size + 1)) s.fns.length s.cells.length w2 v (.int .i64 k) (.int .i64 n) (.slice A l d)) (hb : Below w2.heap.size w2 V) =>
      htf.ret' (s1 := s.dec) (o := (.val v, s.dec)) (Stp.refl w) ⟨Nat.le_refl _, Nat.le_refl _⟩ (ROut.upd ⟨Stp.below (hb2.trans (hb.mono hb2.size)) htf.go_.hBW, ⟨Nat.le_refl _, Nat.le_refl _⟩, k, n, A, l, d, rfl, htf.go_.below (hb2.trans (hb.mono hb2.size)), hv.step (KpX.below hb) (Nat.le_refl _) (Nat.le_refl _)⟩ htf.lim.2 hlm))
    clear h hX hc he hl hS hlm hlo
    dsimp only
    generalize ((Res.val v, s.dec) : Out) = o at *
    go_enter Tryd.func28, Tryd.ntmps28
    go_wp2_with (first
      | (go_at_call 44; refine HS.out.mono ?_; rintro en w1 ⟨rfl, htf⟩; obtain ⟨q0, q1, q2, q3, q4, q5, q6⟩ := htf.cells; have HTF := Lib.hid htf; clear htf)
      | (go_at_call 45; refine (HF.out _ HTF.out).mono ?_; rintro en w2 ⟨k, n, A, l, d, rfl, hb2, hv2⟩; obtain ⟨⟨f0, f1, f2, ff⟩, hR⟩ := HP.out _ _ _ k n A l d HTF.out hb2 hv2 (below_al1 w2 (.cells #[.int .i64 k, .int .i64 n, .slice A l d] 65)); have HR := Lib.hid hR; clear hR))
    exact bodyPost_ret (v := .agg #[.int .i64 k, .int .i64 n, .slice A l d]) (by simp [results, Tryd.results28, go_sem, f0, f1, f2]) rfl HR.out
set_option maxRecDepth 100000 in
set_option maxHeartbeats 2000000 in
theorem rterm_fn (h : RGo X B mb cb inp fuel s W) (hX : ∀ k, X k → k < W.heap.size) {nn : Int} {ks : List Int} {cs : List Core} {Ak Ac : Option Addr} {ck cc b oo : Nat} {G0 G1 G2 G3 : Nat → Value} (hc : CoreIn B W (.mk 3 nn ks cs) #[.int .i64 3, .int .i64 nn, .slice Ak ks.length ck, .slice Ac cs.length cc]) (hK : KidsIn B W Ac cs b oo G0 G1 G2 G3) (hcs : 0 < cs.length) (hsm : SmallT cs[0]) {e : PEnv} {pq : Option Addr} (he : EIn X s.fns.length s.cells.length W e (.pointer pq)) (hl : s.left ≠ 0) :
    Calls Tryd.prog 28 #[.pointer (some ⟨cb, 0, none⟩), .agg #[.int .i64 3, .int .i64 nn, .slice Ak ks.length ck, .slice Ac cs.length cc], .pointer pq] W (ROut X B mb cb inp fuel s (.val (.fn s.fns.length), { s.dec with fns := s.fns ++ [⟨nn, cs[0], e⟩] }) W) := by
  generalize hV0 : ((W.alloc (.cells #[.int .i64 3, .int .i64 nn, .slice Ak ks.length ck, .slice Ac cs.length cc] 26)).alloc (.cells #[.int .i64 0, .int .i64 0, .slice none 0 0] 65)) = V0
  obtain ⟨hS, mc⟩ := rterm_frame h hX hc he hl V0 hV0
  have HS := Lib.hid hS
  have hlm := h.limB
  obtain ⟨rfl, hbb⟩ := hK.hA hcs
  obtain ⟨y0, y1, A2, m2, d2, A3, m3, d3, hsh⟩ := (hK.hsub 0 hcs).shape
  simp only [Array.mk.injEq, List.cons.injEq, and_true] at hsh
  have HK := Lib.hid (fun (w : World) (hb : Below B W w) => (show w.cell? ⟨b, oo, none⟩ = some (.int .i64 y0) ∧ w.cell? ⟨b, oo + 1, none⟩ = some (.int .i64 y1) ∧ w.cell? ⟨b, oo + 2, none⟩ = some (.slice A2 m2 d2) ∧ w.cell? ⟨b, oo + 3, none⟩ = some (.slice A3 m3 d3) from by
    have hk := hK.below hb
    have c0 := hk.c0 0 hcs
    have c1 := hk.c1 0 hcs
    have c2 := hk.c2 0 hcs
    have c3 := hk.c3 0 hcs
    rw [hsh.1] at c0; rw [hsh.2.1] at c1; rw [hsh.2.2.1] at c2; rw [hsh.2.2.2] at c3
    simpa using ⟨c0, c1, c2, c3⟩))
  have HP := Lib.hid (fun (w : World) (htf : TF X B mb cb inp fuel s W (.mk 3 nn ks cs) 3 nn (Ak) ks.length ck (some ⟨b, oo, none⟩) cs.length cc e (.pointer pq) w) => (show Calls Tryd.prog 48 #[.pointer (some ⟨cb, 0, none⟩), .agg #[.int .i64 nn, .int .i64 y0, .int .i64 y1, .slice A2 m2 d2, .slice A3 m3 d3, .pointer pq]] w.drew _ from by
    have hd : Below w.heap.size w w.drew := (Below.refl _ _).drew
    have hcc := (hK.below htf.st.bel).hsub 0 hcs
    rw [hsh.1, hsh.2.1, hsh.2.2.1, hsh.2.2.2] at hcc
    have hu : RGo (Bx X (W.heap.size + 1)) B mb cb inp fuel s.dec w.drew := by
      have := (htf.go_.below hd).lim_ (l := fuel.lim) (by show fuel.lim - 1 ≤ _; omega) hlm
      exact this
    have hfB := (htf.go_.below hd).fnsB
    have hl2 := htf.lim.2
    exact (rfn_any (f := ⟨nn, cs[0], e⟩) hu (fun k hk => htf.hX k hk) (by have : s.fns.length + 1000 * (s.left - 1) ≤ 1000 * (fuel.lim - 1) := hfB; show s.fns.length + 1 + 1000 * (s.left - 1) ≤ 1000 * fuel.lim; omega) (hcc.kept (hd.mono htf.go_.hBW)) hsm (htf.env.step (KpX.below hd) (Nat.le_refl _) (Nat.le_refl _))).mono fun en w' hp => htf.ret (W1 := w.drew) (s1 := s.dec) (Stp.below hd htf.go_.hBW) ⟨Nat.le_refl _, Nat.le_refl _⟩ hp))
  have HB := Lib.hid (And.intro hbb h.hBW)
  have hcs0 : (0 : Int) < (cs.length : Int) := by omega
  generalize ((Res.val (.fn s.dec.fns.length), { s.dec with fns := s.dec.fns ++ [⟨nn, cs[0], e⟩] }) : Out) = o at *
  have hbw : ∀ w : World, W.heap.size + 1 < w.heap.size → b < w.heap.size ∧ W.heap.size < w.heap.size := fun w hw => by have := h.hBW; omega
  have HBW := Lib.hid hbw
  clear hbw
  clear h hX hc he hl hS hlm hK hsh hsm
  generalize ks.length = kl at *
  generalize cs.length = cl at *
  have hcl0 : 0 < cl := by omega
  go_enter Tryd.func28, Tryd.ntmps28
  go_wp2_with (first
    | (go_at_call 44; refine HS.out.mono ?_; rintro en w1 ⟨rfl, htf⟩; obtain ⟨q0, q1, q2, q3, q4, q5, q6⟩ := htf.cells; obtain ⟨r0, r1, r2, r3⟩ := HK.out w1 htf.st.bel; obtain ⟨q7, q8⟩ := HBW.out w1 q5; have HTF := Lib.hid htf; clear htf))
  go_region_law ((first
    | (go_simp; go_at_call 48; refine (HP.out _ HTF.out).mono ?_; rintro e w' ⟨k, n, A, l, d, rfl, ⟨f0, f1, f2, ff⟩, hR⟩; have HR := Lib.hid hR; clear hR)))
  all_goals
    go_wp2_with fail
    exact bodyPost_ret (v := .agg #[.int .i64 k, .int .i64 n, .slice A l d]) (by simp [results, Tryd.results28, go_sem, f0, f1, f2]) rfl HR.out
end
end Go.Proofs.YtnolhcdfknjncaaDoor

/-
  The document's run: a term: Kids' values, and what is done with them.
-/
set_option linter.unusedVariables false
set_option linter.unusedSimpArgs false
namespace Go.Proofs.YtnolhcdfknjncaaDoor
open Go.RowKit

section
variable {X Y Y' : Nat → Prop} {B mb cb n : Nat} {inp : List Int} {fuel : FL} {s s1 : St} {cut stk rai : Bool} {x0 x1 x2 : Value} {W W' W1 W2 W3 V0 V w w' : World} {o : Out}
def restO (r : (Res ⊕ List PV) × St) (fin : List PV → St → Out) : Out := match r with | (.inl r, s') => (r, s') | (.inr vs, s') => fin vs s'
set_option maxRecDepth 100000 in
set_option maxHeartbeats 2000000 in
theorem rterm_rest (hok : RTermOk B mb cb inp n) (h : RGo X B mb cb inp fuel s W) (hX : ∀ k, X k → k < W.heap.size) {k nn : Int} {ks : List Int} {cs : List Core} {Ak Ac : Option Addr} {ck cc b oo : Nat} {G0 G1 G2 G3 : Nat → Value} (hkk : k = 4 ∨ k = 7 ∨ k = 8 ∨ k = 10) (hc : CoreIn B W (.mk k nn ks cs) #[.int .i64 k, .int .i64 nn, .slice Ak ks.length ck, .slice Ac cs.length cc]) (hK : KidsIn B W Ac cs b oo G0 G1 G2 G3) (hsm : ∀ c ∈ cs, SmallT c) {e : PEnv} {pq : Option Addr} (he : EIn X s.fns.length s.cells.length W e (.pointer pq)) (hl : s.left ≠ 0) (hn : s.left < n + 1)
    (fin : List PV → St → Out) (hd : ∀ (vs : List PV) (s' : St) (w : World) (A : Option Addr) (d : Nat), evs (ev inp n) e cs [] s.dec = (.inr vs, s') → RGo (Bx X (W.heap.size + 1)) B mb cb inp fuel.dec s' w → (∀ k, Bx X (W.heap.size + 1) k → k < w.heap.size) → VRow (Bx X (W.heap.size + 1)) s'.fns.length s'.cells.length w A vs → vs.length ≤ d →
      Calls Tryd.prog 54 #[.pointer (some ⟨cb, 0, none⟩), .agg #[.int .i64 k, .int .i64 nn, .slice Ak ks.length ck, .slice Ac cs.length cc], .slice A vs.length d] w (ROut (Bx X (W.heap.size + 1)) B mb cb inp fuel s' (fin vs s') w)) :
    Calls Tryd.prog 28 #[.pointer (some ⟨cb, 0, none⟩), .agg #[.int .i64 k, .int .i64 nn, .slice Ak ks.length ck, .slice Ac cs.length cc], .pointer pq] W (ROut X B mb cb inp fuel s (restO (evs (ev inp n) e cs [] s.dec) fin) W) := by
  generalize hV0 : ((W.alloc (.cells #[.int .i64 k, .int .i64 nn, .slice Ak ks.length ck, .slice Ac cs.length cc] 26)).alloc (.cells #[.int .i64 0, .int .i64 0, .slice none 0 0] 65)) = V0
  obtain ⟨hS, mc⟩ := rterm_frame h hX hc he hl V0 hV0
  have HS := Lib.hid hS
  have hlm := h.limB
  have HK := Lib.hid (fun (w : World) (htf : TF X B mb cb inp fuel s W (.mk k nn ks cs) k nn Ak ks.length ck Ac cs.length cc e (.pointer pq) w) => rkids_any hok htf.go_ htf.hX (hK.below htf.st.bel) hsm htf.env (show s.left - 1 < n by omega) cc)
  have hno : ∀ b, W.heap.size ≤ b → ¬ Own2 mb cb b := fun b hb e => by have := own_lt h; rcases e with e | e <;> omega
  have HC := Lib.hid (fun (w w2 : World) (htf : TF X B mb cb inp fuel s W (.mk k nn ks cs) k nn Ak ks.length ck Ac cs.length cc e (.pointer pq) w) (hst : Stp B mb cb w w2) => (show (w2.cell? ⟨W.heap.size, 0, none⟩ = some (.int .i64 k) ∧ w2.cell? ⟨W.heap.size, 1, none⟩ = some (.int .i64 nn) ∧ w2.cell? ⟨W.heap.size, 2, none⟩ = some (.slice Ak ks.length ck) ∧ w2.cell? ⟨W.heap.size, 3, none⟩ = some (.slice Ac cs.length cc)) ∧ (∀ k, Bx X (W.heap.size + 1) k → k < w2.heap.size) from by
    have e1 := hst.kp.same _ _ htf.core rfl (hno _ (Nat.le_refl _))
    exact ⟨⟨cell_block e1 rfl, cell_block e1 rfl, cell_block e1 rfl, cell_block e1 rfl⟩, fun k hk => by have := htf.hX k hk; have := hst.kp.size; omega⟩))
  -- the two ends
  obtain ⟨r, hr⟩ : ∃ r, evs (ev inp n) e cs [] s.dec = r := ⟨_, rfl⟩
  rw [hr] at HK hd ⊢
  have hkn : (k == 1) = false ∧ (k == 2) = false ∧ (k == 3) = false ∧ (k == 6) = false ∧ (k == 5) = false ∧ (k == 9) = false := by
    rcases hkk with rfl | rfl | rfl | rfl <;> decide
  obtain ⟨z1, z2, z3, z6, z5, z9⟩ := hkn
  obtain ⟨r, s'⟩ := r
  cases r with
  | inl r =>
    have HP := Lib.hid (fun (w w2 : World) (htf : TF X B mb cb inp fuel s W (.mk k nn ks cs) k nn Ak ks.length ck Ac cs.length cc e (.pointer pq) w) (hst : Stp B mb cb w w2) (hgr : s.dec.fns.length ≤ s'.fns.length ∧ s.dec.cells.length ≤ s'.cells.length) (hnv : ∀ v, r ≠ .val v) (ho : OutIn (Bx X (W.heap.size + 1)) B mb cb inp fuel.dec w2 (.int .i64 0) (.int .i64 0) (.slice none 0 0) (r, s')) =>
      (show Calls Tryd.prog 50 #[.pointer (some ⟨mb, 0, none⟩)] w2 (fun e w' => e = .returned (.bool true) ∧ w2 = w') ∧ w2.cell? ⟨cb, 0, none⟩ = some (.pointer (some ⟨mb, 0, none⟩)) ∧ ((w2.cell? ⟨W.heap.size + 1, 0, none⟩ = some (.int .i64 0) ∧ w2.cell? ⟨W.heap.size + 1, 1, none⟩ = some (.int .i64 0) ∧ w2.cell? ⟨W.heap.size + 1, 2, none⟩ = some (.slice none 0 0) ∧ (∀ i, w2.frozen? ⟨W.heap.size + 1, i, none⟩ = false)) ∧
          ROut X B mb cb inp fuel s (r, s') W (.returned (.agg #[.int .i64 0, .int .i64 0, .slice none 0 0])) (((w2.setCell ⟨W.heap.size + 1, 0, none⟩ (.int .i64 0)).setCell ⟨W.heap.size + 1, 1, none⟩ (.int .i64 0)).setCell ⟨W.heap.size + 1, 2, none⟩ (.slice none 0 0))) from by
        obtain ⟨cut, stk, rai, x0, x1, x2, hri, hfl⟩ := ho.off hnv
        exact ⟨(roff_any hri).mono fun e w' hp => ⟨hp.1.trans (by rw [hfl]), hp.2⟩, hri.cells.2.2.2.2.2.2.2.2.2.2, htf.ret' (s1 := s') (o := (r, s')) (W1 := w2) hst hgr (ROut.upd ⟨Stp.refl w2, ⟨Nat.le_refl _, Nat.le_refl _⟩, 0, 0, none, 0, 0, rfl, ho⟩ htf.lim.2 hlm)⟩))
    clear h hX hc he hl hS hlm hK hsm hno hd hr hok hn hkk
    dsimp only [restO]
    generalize ks.length = kl at *
    generalize cs.length = cl at *
    go_enter Tryd.func28, Tryd.ntmps28
    go_wp2_with (first
      | (go_at_call 44; refine HS.out.mono ?_; rintro en w1 ⟨rfl, htf⟩; obtain ⟨q0, q1, q2, q3, q4, q5, q6⟩ := htf.cells; have HTF := Lib.hid htf; clear htf)
      | (go_at_call 53; refine (HK.out _ HTF.out).mono ?_; rintro en w2 ⟨hst, hgr, A, l, d, rfl, hnv, ho⟩; obtain ⟨p1, p2, ⟨f0, f1, f2, ff⟩, hR⟩ := HP.out _ w2 HTF.out hst hgr hnv ho; have HR := Lib.hid hR; have HOF := Lib.hid p1; clear hR p1 hst hgr hnv ho)
      | (go_at_call 50; refine HOF.out.mono ?_; rintro en w3 ⟨rfl, rfl⟩))
    exact bodyPost_ret (v := zeroV) (by simp [results, Tryd.results28, go_sem, f0, f1, f2]) rfl HR.out
  | inr vs =>
    have HP := Lib.hid (fun (w w2 : World) (A : Option Addr) (d : Nat) (htf : TF X B mb cb inp fuel s W (.mk k nn ks cs) k nn Ak ks.length ck Ac cs.length cc e (.pointer pq) w) (hst : Stp B mb cb w w2) (hgr : s.dec.fns.length ≤ s'.fns.length ∧ s.dec.cells.length ≤ s'.cells.length) (hd1 : vs.length ≤ d) (hg : RGo (Bx X (W.heap.size + 1)) B mb cb inp fuel.dec s' w2) (hv : VRow (Bx X (W.heap.size + 1)) s'.fns.length s'.cells.length w2 A vs) =>
      (show Calls Tryd.prog 50 #[.pointer (some ⟨mb, 0, none⟩)] w2 (fun e w' => e = .returned (.bool false) ∧ w2 = w') ∧ w2.cell? ⟨cb, 0, none⟩ = some (.pointer (some ⟨mb, 0, none⟩)) ∧ Calls Tryd.prog 54 #[.pointer (some ⟨cb, 0, none⟩), .agg #[.int .i64 k, .int .i64 nn, .slice Ak ks.length ck, .slice Ac cs.length cc], .slice A vs.length d] w2 _ from
        ⟨roff_any hg, hg.cells.2.2.2.2.2.2.2.2.2.2, (hd vs s' w2 A d rfl hg (HC.out w w2 htf hst).2 hv hd1).mono fun en w' hp => htf.ret (s1 := s') hst hgr hp⟩))
    clear h hX hc he hl hS hlm hK hsm hno hd hr hok hn hkk
    dsimp only [restO]
    generalize fin vs s' = o at *
    generalize ks.length = kl at *
    generalize cs.length = cl at *
    generalize hvl : vs.length = vl at *
    go_enter Tryd.func28, Tryd.ntmps28
    go_wp2_with (first
      | (go_at_call 44; refine HS.out.mono ?_; rintro en w1 ⟨rfl, htf⟩; obtain ⟨q0, q1, q2, q3, q4, q5, q6⟩ := htf.cells; have HTF := Lib.hid htf; clear htf)
      | (go_at_call 53; refine (HK.out _ HTF.out).mono ?_; rintro en w2 ⟨hst, hgr, A, l, d, rfl, rfl, hd1, hg, hv⟩; obtain ⟨⟨q0', q1', q2', q3'⟩, -⟩ := HC.out _ w2 HTF.out hst; obtain ⟨p1, p2, p3⟩ := HP.out _ w2 A d HTF.out hst hgr (by omega) hg hv; have HOF := Lib.hid p1; have HDO := Lib.hid p3; clear p1 p3 hst hgr hg hv)
      | (go_at_call 50; refine HOF.out.mono ?_; rintro en w3 ⟨rfl, rfl⟩)
      | (go_at_call 54; refine HDO.out.mono ?_; rintro e w' ⟨k, n, A, l, d, rfl, ⟨f0, f1, f2, ff⟩, hR⟩; have HR := Lib.hid hR; clear hR))
    exact bodyPost_ret (v := .agg #[.int .i64 k, .int .i64 n, .slice A l d]) (by simp [results, Tryd.results28, go_sem, f0, f1, f2]) rfl HR.out
end
end Go.Proofs.YtnolhcdfknjncaaDoor

/-
  The document's run: a term: a let.
-/
set_option linter.unusedVariables false
set_option linter.unusedSimpArgs false
namespace Go.Proofs.YtnolhcdfknjncaaDoor
open Go.RowKit

section
variable {X Y Y' : Nat → Prop} {B mb cb n : Nat} {inp : List Int} {fuel : FL} {s s1 : St} {cut stk rai : Bool} {x0 x1 x2 : Value} {W W' W1 W2 W3 V0 V w w' : World} {o : Out}
/-- a Kid's cells -/
theorem kid_cells {cs : List Core} {b oo : Nat} {A : Option Addr} {G0 G1 G2 G3 : Nat → Value} (hK : KidsIn B W A cs b oo G0 G1 G2 G3) {i : Nat} (hi : i < cs.length) : ∃ y0 y1 A2 m2 d2 A3 m3 d3, b < B ∧ A = some ⟨b, oo, none⟩ ∧ ∀ w, Below B W w → (w.cell? ⟨b, oo + i * 4, none⟩ = some (.int .i64 y0) ∧ w.cell? ⟨b, oo + i * 4 + 1, none⟩ = some (.int .i64 y1) ∧ w.cell? ⟨b, oo + i * 4 + 2, none⟩ = some (.slice A2 m2 d2) ∧ w.cell? ⟨b, oo + i * 4 + 3, none⟩ = some (.slice A3 m3 d3)) ∧ CoreIn B w cs[i] #[.int .i64 y0, .int .i64 y1, .slice A2 m2 d2, .slice A3 m3 d3] := by
  obtain ⟨y0, y1, A2, m2, d2, A3, m3, d3, hsh⟩ := (hK.hsub i hi).shape
  simp only [Array.mk.injEq, List.cons.injEq, and_true] at hsh
  obtain ⟨hA, hb⟩ := hK.hA (by omega)
  refine ⟨y0, y1, A2, m2, d2, A3, m3, d3, hb, hA, fun w hw => ?_⟩
  have hk := hK.below hw
  have c0 := hk.c0 i hi
  have c1 := hk.c1 i hi
  have c2 := hk.c2 i hi
  have c3 := hk.c3 i hi
  have cc := hk.hsub i hi
  rw [hsh.1] at c0; rw [hsh.2.1] at c1; rw [hsh.2.2.1] at c2; rw [hsh.2.2.2] at c3
  rw [hsh.1, hsh.2.1, hsh.2.2.1, hsh.2.2.2] at cc
  exact ⟨⟨c0, c1, c2, c3⟩, cc⟩
/-- a Kid's run that ended the run: zero is handed back -/
theorem TF.off {t : Core} {k nn : Int} {Ak Ac : Option Addr} {lk ck lc cc : Nat} {e : PEnv} {pv : Value} (h : TF X B mb cb inp fuel s W t k nn Ak lk ck Ac lc cc e pv w) (hlm : fuel.lim ≤ fuel.f) {w2 w3 : World} {r : Res} {s' : St} {a b c : Value} (hst : Stp B mb cb w w2) (hgr : s.fns.length ≤ s'.fns.length ∧ s.cells.length ≤ s'.cells.length) (hnv : ∀ v, r ≠ .val v) (ho : OutIn (Bx X (W.heap.size + 1)) B mb cb inp fuel.dec w2 a b c (r, s')) (hb : Below w2.heap.size w2 w3) :
    Calls Tryd.prog 50 #[.pointer (some ⟨mb, 0, none⟩)] w3 (fun e w' => e = .returned (.bool true) ∧ w3 = w') ∧ w3.cell? ⟨cb, 0, none⟩ = some (.pointer (some ⟨mb, 0, none⟩)) ∧ ((w3.cell? ⟨W.heap.size + 1, 0, none⟩ = some (.int .i64 0) ∧ w3.cell? ⟨W.heap.size + 1, 1, none⟩ = some (.int .i64 0) ∧ w3.cell? ⟨W.heap.size + 1, 2, none⟩ = some (.slice none 0 0) ∧ (∀ i, w3.frozen? ⟨W.heap.size + 1, i, none⟩ = false)) ∧
          ROut X B mb cb inp fuel s (r, s') W (.returned (.agg #[.int .i64 0, .int .i64 0, .slice none 0 0])) (((w3.setCell ⟨W.heap.size + 1, 0, none⟩ (.int .i64 0)).setCell ⟨W.heap.size + 1, 1, none⟩ (.int .i64 0)).setCell ⟨W.heap.size + 1, 2, none⟩ (.slice none 0 0))) := by
  obtain ⟨cut, stk, rai, x0, x1, x2, hri, hfl⟩ := (ho.below hb).off hnv
  have hB2 : B ≤ w2.heap.size := by have := h.st.kp.size; have := hst.kp.size; have := h.hB; omega
  exact ⟨(roff_any hri).mono fun e w' hp => ⟨hp.1.trans (by rw [hfl]), hp.2⟩, hri.cells.2.2.2.2.2.2.2.2.2.2, h.ret' (s1 := s') (o := (r, s')) (W1 := w3) (hst.trans (Stp.below hb hB2)) hgr (ROut.upd ⟨Stp.refl w3, ⟨Nat.le_refl _, Nat.le_refl _⟩, 0, 0, none, 0, 0, rfl, (ho.below hb).vals hnv⟩ h.lim.2 hlm)⟩
/-- a frame's cells behind a step -/
theorem TF.later {t : Core} {k nn : Int} {Ak Ac : Option Addr} {lk ck lc cc : Nat} {e : PEnv} {pv : Value} (h : TF X B mb cb inp fuel s W t k nn Ak lk ck Ac lc cc e pv w) {w2 : World} (hst : Stp B mb cb w w2) : (w2.cell? ⟨W.heap.size, 0, none⟩ = some (.int .i64 k) ∧ w2.cell? ⟨W.heap.size, 1, none⟩ = some (.int .i64 nn) ∧ w2.cell? ⟨W.heap.size, 2, none⟩ = some (.slice Ak lk ck) ∧ w2.cell? ⟨W.heap.size, 3, none⟩ = some (.slice Ac lc cc)) ∧ (∀ k, Bx X (W.heap.size + 1) k → k < w2.heap.size) ∧ Below B W w2 ∧ W.heap.size + 1 < w2.heap.size := by
  have hno : ¬ Own2 mb cb W.heap.size := fun e => by have := h.own; rcases e with e | e <;> omega
  have e1 := hst.kp.same _ _ h.core rfl hno
  exact ⟨⟨cell_block e1 rfl, cell_block e1 rfl, cell_block e1 rfl, cell_block e1 rfl⟩, fun k hk => by have := h.hX k hk; have := hst.kp.size; omega, h.st.bel.trans hst.bel, by have := (Array.getElem?_eq_some_iff.1 h.box).1; have := hst.kp.size; omega⟩
def letO (rec : Core → PEnv → St → Out) (nn : Int) (c : Core) (e : PEnv) (o1 : Out) : Out := match o1 with | (.val v, s') => rec c ((nn, v) :: e) s' | o => o
set_option maxRecDepth 100000 in
set_option maxHeartbeats 4000000 in
theorem rterm_let (hok : RTermOk B mb cb inp n) (h : RGo X B mb cb inp fuel s W) (hX : ∀ k, X k → k < W.heap.size) {nn : Int} {ks : List Int} {cs : List Core} {Ak Ac : Option Addr} {ck cc b oo : Nat} {G0 G1 G2 G3 : Nat → Value} (hc : CoreIn B W (.mk 5 nn ks cs) #[.int .i64 5, .int .i64 nn, .slice Ak ks.length ck, .slice Ac cs.length cc]) (hK : KidsIn B W Ac cs b oo G0 G1 G2 G3) (hcs : 1 < cs.length) (hsm : ∀ c ∈ cs, SmallT c) {e : PEnv} {pq : Option Addr} (he : EIn X s.fns.length s.cells.length W e (.pointer pq)) (hl : s.left ≠ 0) (hn : s.left < n + 1) :
    Calls Tryd.prog 28 #[.pointer (some ⟨cb, 0, none⟩), .agg #[.int .i64 5, .int .i64 nn, .slice Ak ks.length ck, .slice Ac cs.length cc], .pointer pq] W (ROut X B mb cb inp fuel s (letO (ev inp n) nn cs[1] e (ev inp n cs[0] e s.dec)) W) := by
  generalize hV0 : ((W.alloc (.cells #[.int .i64 5, .int .i64 nn, .slice Ak ks.length ck, .slice Ac cs.length cc] 26)).alloc (.cells #[.int .i64 0, .int .i64 0, .slice none 0 0] 65)) = V0
  obtain ⟨hS, mc⟩ := rterm_frame h hX hc he hl V0 hV0
  have HS := Lib.hid hS
  have hlm := h.limB
  have hlt := own_lt h
  have hBm : B ≤ mb ∧ B ≤ cb := ⟨h.hmb, h.hcb⟩
  have hBW := h.hBW
  have hcs0 : 0 < cs.length := by omega
  obtain ⟨g0, g1, A1, m1, d1, A1', m1', d1', hbB, rfl, hk0⟩ := kid_cells hK hcs0
  obtain ⟨y0, y1, A2, m2, d2, A3, m3, d3, -, -, hk1⟩ := kid_cells hK hcs
  simp only [Nat.zero_mul, Nat.add_zero, Nat.one_mul] at hk0 hk1
  have HK0 := Lib.hid (fun (w : World) (htf : TF X B mb cb inp fuel s W (.mk 5 nn ks cs) 5 nn Ak ks.length ck (some ⟨b, oo, none⟩) cs.length cc e (.pointer pq) w) => (hk0 w htf.st.bel).1)
  have HT := Lib.hid (fun (w : World) (htf : TF X B mb cb inp fuel s W (.mk 5 nn ks cs) 5 nn Ak ks.length ck (some ⟨b, oo, none⟩) cs.length cc e (.pointer pq) w) =>
    hok (Bx X (W.heap.size + 1)) fuel.dec s.dec w cs[0] _ _ _ _ e (.pointer pq) htf.go_ htf.hX (hk0 w htf.st.bel).2 (hsm _ (List.getElem_mem hcs0)) htf.env (show s.left - 1 < n by omega))
  have hle := (ev_le inp n cs[0] e s.dec).left
  obtain ⟨o1, ho1⟩ : ∃ o1, ev inp n cs[0] e s.dec = o1 := ⟨_, rfl⟩
  rw [ho1] at HT hle ⊢
  obtain ⟨r, s'⟩ := o1
  have hno : ∀ k, W.heap.size ≤ k → ¬ Own2 mb cb k := fun k hk e => by rcases e with e | e <;> omega
  have hnb : ¬ Own2 mb cb b := fun e => by rcases e with e | e <;> omega
  by_cases hv : ∃ v, r = .val v
  · obtain ⟨v, rfl⟩ := hv
    have HX2 := Lib.hid (fun (w w2 : World) (k3 m3' : Int) (A3' : Option Addr) (l3 d3' : Nat) (htf : TF X B mb cb inp fuel s W (.mk 5 nn ks cs) 5 nn Ak ks.length ck (some ⟨b, oo, none⟩) cs.length cc e (.pointer pq) w) (hst : Stp B mb cb w w2) (hgr : s.dec.fns.length ≤ s'.fns.length ∧ s.dec.cells.length ≤ s'.cells.length) (hg : RGo (Bx X (W.heap.size + 1)) B mb cb inp fuel.dec s' w2) (hvv : VIn (Bx X (W.heap.size + 1)) s'.fns.length s'.cells.length w2 v (.int .i64 k3) (.int .i64 m3') (.slice A3' l3 d3')) =>
      (show ∀ w3, (w2.alloc (.cells #[.int .i64 k3, .int .i64 m3', .slice A3' l3 d3'] 65)) = w3 → Calls Tryd.prog 50 #[.pointer (some ⟨mb, 0, none⟩)] w3 (fun e w' => e = .returned (.bool false) ∧ w3 = w') ∧ w3.cell? ⟨cb, 0, none⟩ = some (.pointer (some ⟨mb, 0, none⟩)) ∧ (w3.cell? ⟨W.heap.size, 1, none⟩ = some (.int .i64 nn) ∧ w3.cell? ⟨W.heap.size, 3, none⟩ = some (.slice (some ⟨b, oo, none⟩) cs.length cc) ∧ w3.cell? ⟨b, oo + 4, none⟩ = some (.int .i64 y0) ∧ w3.cell? ⟨b, oo + 4 + 1, none⟩ = some (.int .i64 y1) ∧ w3.cell? ⟨b, oo + 4 + 2, none⟩ = some (.slice A2 m2 d2) ∧ w3.cell? ⟨b, oo + 4 + 3, none⟩ = some (.slice A3 m3 d3) ∧ w3.cell? ⟨w2.heap.size, 0, none⟩ = some (.int .i64 k3) ∧ w3.cell? ⟨w2.heap.size, 1, none⟩ = some (.int .i64 m3') ∧ w3.cell? ⟨w2.heap.size, 2, none⟩ = some (.slice A3' l3 d3')) ∧
          (∀ V, Below w3.heap.size w3 V → V.cell? ⟨W.heap.size, 1, none⟩ = some (.int .i64 nn) ∧ V.cell? ⟨W.heap.size, 3, none⟩ = some (.slice (some ⟨b, oo, none⟩) cs.length cc) ∧ V.cell? ⟨b, oo + 4, none⟩ = some (.int .i64 y0) ∧ V.cell? ⟨b, oo + 4 + 1, none⟩ = some (.int .i64 y1) ∧ V.cell? ⟨b, oo + 4 + 2, none⟩ = some (.slice A2 m2 d2) ∧ V.cell? ⟨b, oo + 4 + 3, none⟩ = some (.slice A3 m3 d3) ∧ V.cell? ⟨w2.heap.size, 0, none⟩ = some (.int .i64 k3) ∧ V.cell? ⟨w2.heap.size, 1, none⟩ = some (.int .i64 m3') ∧ V.cell? ⟨w2.heap.size, 2, none⟩ = some (.slice A3' l3 d3')) ∧ (∀ V V', (V.cell? ⟨W.heap.size, 1, none⟩ = some (.int .i64 nn) ∧ V.cell? ⟨W.heap.size, 3, none⟩ = some (.slice (some ⟨b, oo, none⟩) cs.length cc) ∧ V.cell? ⟨b, oo + 4, none⟩ = some (.int .i64 y0) ∧ V.cell? ⟨b, oo + 4 + 1, none⟩ = some (.int .i64 y1) ∧ V.cell? ⟨b, oo + 4 + 2, none⟩ = some (.slice A2 m2 d2) ∧ V.cell? ⟨b, oo + 4 + 3, none⟩ = some (.slice A3 m3 d3) ∧ V.cell? ⟨w2.heap.size, 0, none⟩ = some (.int .i64 k3) ∧ V.cell? ⟨w2.heap.size, 1, none⟩ = some (.int .i64 m3') ∧ V.cell? ⟨w2.heap.size, 2, none⟩ = some (.slice A3' l3 d3')) → Stp B mb cb V V' → V'.cell? ⟨W.heap.size, 1, none⟩ = some (.int .i64 nn) ∧ V'.cell? ⟨W.heap.size, 3, none⟩ = some (.slice (some ⟨b, oo, none⟩) cs.length cc) ∧ V'.cell? ⟨b, oo + 4, none⟩ = some (.int .i64 y0) ∧ V'.cell? ⟨b, oo + 4 + 1, none⟩ = some (.int .i64 y1) ∧ V'.cell? ⟨b, oo + 4 + 2, none⟩ = some (.slice A2 m2 d2) ∧ V'.cell? ⟨b, oo + 4 + 3, none⟩ = some (.slice A3 m3 d3) ∧ V'.cell? ⟨w2.heap.size, 0, none⟩ = some (.int .i64 k3) ∧ V'.cell? ⟨w2.heap.size, 1, none⟩ = some (.int .i64 m3') ∧ V'.cell? ⟨w2.heap.size, 2, none⟩ = some (.slice A3' l3 d3')) ∧ (∀ (V : World) (i : Nat) (x : Value), (V.cell? ⟨W.heap.size, 1, none⟩ = some (.int .i64 nn) ∧ V.cell? ⟨W.heap.size, 3, none⟩ = some (.slice (some ⟨b, oo, none⟩) cs.length cc) ∧ V.cell? ⟨b, oo + 4, none⟩ = some (.int .i64 y0) ∧ V.cell? ⟨b, oo + 4 + 1, none⟩ = some (.int .i64 y1) ∧ V.cell? ⟨b, oo + 4 + 2, none⟩ = some (.slice A2 m2 d2) ∧ V.cell? ⟨b, oo + 4 + 3, none⟩ = some (.slice A3 m3 d3) ∧ V.cell? ⟨w2.heap.size, 0, none⟩ = some (.int .i64 k3) ∧ V.cell? ⟨w2.heap.size, 1, none⟩ = some (.int .i64 m3') ∧ V.cell? ⟨w2.heap.size, 2, none⟩ = some (.slice A3' l3 d3')) → (V.setCell ⟨W.heap.size + 1, i, none⟩ x).cell? ⟨W.heap.size, 1, none⟩ = some (.int .i64 nn) ∧ (V.setCell ⟨W.heap.size + 1, i, none⟩ x).cell? ⟨W.heap.size, 3, none⟩ = some (.slice (some ⟨b, oo, none⟩) cs.length cc) ∧ (V.setCell ⟨W.heap.size + 1, i, none⟩ x).cell? ⟨b, oo + 4, none⟩ = some (.int .i64 y0) ∧ (V.setCell ⟨W.heap.size + 1, i, none⟩ x).cell? ⟨b, oo + 4 + 1, none⟩ = some (.int .i64 y1) ∧ (V.setCell ⟨W.heap.size + 1, i, none⟩ x).cell? ⟨b, oo + 4 + 2, none⟩ = some (.slice A2 m2 d2) ∧ (V.setCell ⟨W.heap.size + 1, i, none⟩ x).cell? ⟨b, oo + 4 + 3, none⟩ = some (.slice A3 m3 d3) ∧ (V.setCell ⟨W.heap.size + 1, i, none⟩ x).cell? ⟨w2.heap.size, 0, none⟩ = some (.int .i64 k3) ∧ (V.setCell ⟨W.heap.size + 1, i, none⟩ x).cell? ⟨w2.heap.size, 1, none⟩ = some (.int .i64 m3') ∧ (V.setCell ⟨W.heap.size + 1, i, none⟩ x).cell? ⟨w2.heap.size, 2, none⟩ = some (.slice A3' l3 d3')) ∧
          Calls Tryd.prog 28 #[.pointer (some ⟨cb, 0, none⟩), .agg #[.int .i64 y0, .int .i64 y1, .slice A2 m2 d2, .slice A3 m3 d3], .pointer (some ⟨w3.heap.size, 0, none⟩)] (w3.alloc (.cells #[.int .i64 nn, .int .i64 k3, .int .i64 m3', .slice A3' l3 d3', .pointer pq] 111)).drew (fun en w' => (∃ V, Stp B mb cb V w' ∧ Below w3.heap.size w3 V) ∧ ∃ kz nz Az lz dz, en = .returned (.agg #[.int .i64 kz, .int .i64 nz, .slice Az lz dz]) ∧ (w'.cell? ⟨W.heap.size + 1, 0, none⟩ = some (.int .i64 0) ∧ w'.cell? ⟨W.heap.size + 1, 1, none⟩ = some (.int .i64 0) ∧ w'.cell? ⟨W.heap.size + 1, 2, none⟩ = some (.slice none 0 0) ∧ (∀ i, w'.frozen? ⟨W.heap.size + 1, i, none⟩ = false)) ∧
            ROut X B mb cb inp fuel s (letO (ev inp n) nn cs[1] e (.val v, s')) W (.returned (.agg #[.int .i64 kz, .int .i64 nz, .slice Az lz dz])) (((w'.setCell ⟨W.heap.size + 1, 0, none⟩ (.int .i64 kz)).setCell ⟨W.heap.size + 1, 1, none⟩ (.int .i64 nz)).setCell ⟨W.heap.size + 1, 2, none⟩ (.slice Az lz dz))) from by
        intro w3 hw3
        have hal := below_al1 w2 (.cells #[.int .i64 k3, .int .i64 m3', .slice A3' l3 d3'] 65)
        have hnw := new1 w2 (.cells #[.int .i64 k3, .int .i64 m3', .slice A3' l3 d3'] 65)
        rw [hw3] at hal hnw
        obtain ⟨⟨u0, u1, u2, u3⟩, hXl, hbW, hszl⟩ := htf.later hst
        have hg3 := hg.below hal
        have hp3 : w2.heap.size < w3.heap.size := (Array.getElem?_eq_some_iff.1 hnw).1
        have hbw3 : Below B W w3 := hbW.trans (hal.mono (by have := hg.hBW; omega))
        obtain ⟨⟨t0, t1, t2, t3⟩, hcore⟩ := hk1 w3 hbw3
        have hS3 : w3.cell? ⟨W.heap.size, 1, none⟩ = some (.int .i64 nn) ∧ w3.cell? ⟨W.heap.size, 3, none⟩ = some (.slice (some ⟨b, oo, none⟩) cs.length cc) ∧ w3.cell? ⟨b, oo + 4, none⟩ = some (.int .i64 y0) ∧ w3.cell? ⟨b, oo + 4 + 1, none⟩ = some (.int .i64 y1) ∧ w3.cell? ⟨b, oo + 4 + 2, none⟩ = some (.slice A2 m2 d2) ∧ w3.cell? ⟨b, oo + 4 + 3, none⟩ = some (.slice A3 m3 d3) ∧ w3.cell? ⟨w2.heap.size, 0, none⟩ = some (.int .i64 k3) ∧ w3.cell? ⟨w2.heap.size, 1, none⟩ = some (.int .i64 m3') ∧ w3.cell? ⟨w2.heap.size, 2, none⟩ = some (.slice A3' l3 d3') := ⟨cell_behind hal u1, cell_behind hal u3, t0, t1, t2, t3, cell_block hnw rfl, cell_block hnw rfl, cell_block hnw rfl⟩
        have hnp : ¬ Own2 mb cb w2.heap.size := hno _ (by omega)
        refine ⟨roff_any hg3, hg3.cells.2.2.2.2.2.2.2.2.2.2, hS3, fun V hV => ⟨cell_behind hV hS3.1, cell_behind hV hS3.2.1, cell_behind hV hS3.2.2.1, cell_behind hV hS3.2.2.2.1, cell_behind hV hS3.2.2.2.2.1, cell_behind hV hS3.2.2.2.2.2.1, cell_behind hV hS3.2.2.2.2.2.2.1, cell_behind hV hS3.2.2.2.2.2.2.2.1, cell_behind hV hS3.2.2.2.2.2.2.2.2⟩, fun V V' hq hst' => ⟨hst'.kp.cell hq.1 (hno _ (Nat.le_refl _)), hst'.kp.cell hq.2.1 (hno _ (Nat.le_refl _)), hst'.kp.cell hq.2.2.1 (hnb), hst'.kp.cell hq.2.2.2.1 (hnb), hst'.kp.cell hq.2.2.2.2.1 (hnb), hst'.kp.cell hq.2.2.2.2.2.1 (hnb), hst'.kp.cell hq.2.2.2.2.2.2.1 (hnp), hst'.kp.cell hq.2.2.2.2.2.2.2.1 (hnp), hst'.kp.cell hq.2.2.2.2.2.2.2.2 (hnp)⟩, fun V i x hq => ⟨(World.cell?_setCell_far V _ (⟨W.heap.size, _, none⟩ : Addr) _ (show W.heap.size + 1 ≠ W.heap.size by omega)).trans hq.1, (World.cell?_setCell_far V _ (⟨W.heap.size, _, none⟩ : Addr) _ (show W.heap.size + 1 ≠ W.heap.size by omega)).trans hq.2.1, (World.cell?_setCell_far V _ (⟨b, _, none⟩ : Addr) _ (show W.heap.size + 1 ≠ b by omega)).trans hq.2.2.1, (World.cell?_setCell_far V _ (⟨b, _, none⟩ : Addr) _ (show W.heap.size + 1 ≠ b by omega)).trans hq.2.2.2.1, (World.cell?_setCell_far V _ (⟨b, _, none⟩ : Addr) _ (show W.heap.size + 1 ≠ b by omega)).trans hq.2.2.2.2.1, (World.cell?_setCell_far V _ (⟨b, _, none⟩ : Addr) _ (show W.heap.size + 1 ≠ b by omega)).trans hq.2.2.2.2.2.1, (World.cell?_setCell_far V _ (⟨w2.heap.size, _, none⟩ : Addr) _ (show W.heap.size + 1 ≠ w2.heap.size by omega)).trans hq.2.2.2.2.2.2.1, (World.cell?_setCell_far V _ (⟨w2.heap.size, _, none⟩ : Addr) _ (show W.heap.size + 1 ≠ w2.heap.size by omega)).trans hq.2.2.2.2.2.2.2.1, (World.cell?_setCell_far V _ (⟨w2.heap.size, _, none⟩ : Addr) _ (show W.heap.size + 1 ≠ w2.heap.size by omega)).trans hq.2.2.2.2.2.2.2.2⟩, ?_⟩
        have hal4 := (below_al1 w3 (.cells #[.int .i64 nn, .int .i64 k3, .int .i64 m3', .slice A3' l3 d3', .pointer pq] 111)).drew
        have hnw4 := new1 w3 (.cells #[.int .i64 nn, .int .i64 k3, .int .i64 m3', .slice A3' l3 d3', .pointer pq] 111)
        have hkx2 : KpX (Bx X (W.heap.size + 1)) w w3 := (hst.kp.mono (fun k hk => .inl (htf.hO k hk))).trans (KpX.below hal)
        have hks := KpX.below (X := Bx X (W.heap.size + 1)) hal4
        have hal4s := hal4.size
        have hg4 := hg3.below hal4
        refine (hok (Bx X (W.heap.size + 1)) fuel.dec s' _ cs[1] _ _ _ _ ((nn, v) :: e) _ hg4 (fun k hk => by have := hXl k hk; omega) (hcore.kept (hal4.mono hg3.hBW)) (hsm _ (List.getElem_mem hcs)) (EIn.cons _ _ _ w3.heap.size (.int .i64 k3) (.int .i64 m3') (.slice A3' l3 d3') (.pointer pq) (fun hx => by have := hXl _ hx; omega) (cell_block hnw4 rfl) (cell_block hnw4 rfl) (cell_block hnw4 rfl) (cell_block hnw4 rfl) (cell_block hnw4 rfl) ((hvv.step (KpX.below hal) (Nat.le_refl _) (Nat.le_refl _)).step hks (Nat.le_refl _) (Nat.le_refl _)) ((htf.env.step hkx2 hgr.1 hgr.2).step hks (Nat.le_refl _) (Nat.le_refl _))) (show s'.left < n by have : s'.left ≤ s.left - 1 := hle; omega)).mono fun en w' hp => ?_
        exact ⟨⟨_, hp.1, hal4⟩, htf.ret (s1 := s') ((hst.trans (Stp.below hal hg.hBW)).trans (Stp.below hal4 hg3.hBW)) hgr (ROut.upd hp htf.lim.2 hlm)⟩))
    generalize hoo : letO (ev inp n) nn cs[1] e (.val v, s') = o at *
    have hclI : (1 : Int) < (cs.length : Int) := by omega
    have hclI0 : (0 : Int) < (cs.length : Int) := by omega
    have hcl1 : 1 < cs.length := by omega
    have hcl0 : 0 < cs.length := by omega
    clear h hX hc he hl hS hlm hK hsm hok hn hle ho1 hk0 hk1 hoo hcs hcs0
    generalize ks.length = kl at *
    generalize cs.length = cl at *
    go_enter Tryd.func28, Tryd.ntmps28
    go_wp2_with (first
      | (go_at_call 44; refine HS.out.mono ?_; rintro en w1 ⟨rfl, htf⟩; obtain ⟨q0, q1, q2, q3, q4, q5, q6⟩ := htf.cells; obtain ⟨r0, r1, r2, r3⟩ := HK0.out w1 htf; have HTF := Lib.hid htf; clear htf)
      | (go_at_call 28; refine (HT.out _ HTF.out).mono ?_; rintro en w2 ⟨hst, hgr, k3, m3', A3', l3, d3', rfl, hg, hvv⟩; obtain ⟨p, hpp⟩ : ∃ p, w2.heap.size = p := ⟨_, rfl⟩; have HX3 := Lib.hid (HX2.out _ w2 k3 m3' A3' l3 d3' HTF.out hst hgr hg hvv); generalize hw3 : (w2.alloc (.cells #[.int .i64 k3, .int .i64 m3', .slice A3' l3 d3'] 65)) = w3; obtain ⟨hOF, p4, hS3, hSB, hSS, hSF, hTT⟩ := HX3.out w3 hw3; have HOF := Lib.hid hOF; have HTT := Lib.hid hTT; have HSB := Lib.hid hSB; have HSS := Lib.hid hSS; have HSF := Lib.hid hSF; rw [hpp] at hS3 HSB HSS HSF; clear hOF hTT hSB hSS hSF hst hgr hg hvv HX3)
      | (go_at_call 50; refine HOF.out.mono ?_; rintro en w4 ⟨rfl, rfl⟩))
    have HB3 := Lib.hid (Below.refl w3.heap.size w3)
    have HB4 := Lib.hid (below_al1 w3 (.cells #[.int .i64 nn, .int .i64 k3, .int .i64 m3', .slice A3' l3 d3', .pointer pq] 111))
    clear HX2 HT HK0 HS HOF HTF q0 q1 q2 q3 r0 r1 r2 r3
    go_region_held2 (fun V => V.cell? ⟨W.heap.size, 1, none⟩ = some (.int .i64 nn) ∧ V.cell? ⟨W.heap.size, 3, none⟩ = some (.slice (some ⟨b, oo, none⟩) cl cc) ∧ V.cell? ⟨b, oo + 4, none⟩ = some (.int .i64 y0) ∧ V.cell? ⟨b, oo + 4 + 1, none⟩ = some (.int .i64 y1) ∧ V.cell? ⟨b, oo + 4 + 2, none⟩ = some (.slice A2 m2 d2) ∧ V.cell? ⟨b, oo + 4 + 3, none⟩ = some (.slice A3 m3 d3) ∧ V.cell? ⟨p, 0, none⟩ = some (.int .i64 k3) ∧ V.cell? ⟨p, 1, none⟩ = some (.int .i64 m3') ∧ V.cell? ⟨p, 2, none⟩ = some (.slice A3' l3 d3'))
      (with_reducible (first | exact HSB.out _ HB3.out.drew | exact HSB.out _ HB4.out.drew | exact HSW.out | exact HSF.out _ _ _ (HSF.out _ _ _ (HSF.out _ _ _ HSW.out)) | exact HSF.out _ _ _ HSW.out))
      ((go_at_call 28; refine HTT.out.mono ?_; rintro en w5 ⟨⟨V, hstV, hbV⟩, k, n, A, l, d, rfl, ⟨f0, f1, f2, ff⟩, hR⟩; have HSW := Lib.hid (HSS.out V w5 (HSB.out V hbV) hstV); have HR := Lib.hid hR; clear hR hstV hbV))
    go_wp2_with fail
    exact bodyPost_ret (v := .agg #[.int .i64 k, .int .i64 n, .slice A l d]) (by simp [results, Tryd.results28, go_sem, f0, f1, f2]) rfl HR.out
  · have hnv : ∀ v, r ≠ .val v := fun v e => hv ⟨v, e⟩
    have hoo : letO (ev inp n) nn cs[1] e (r, s') = (r, s') := by
      cases r with
      | val v => exact absurd rfl (hnv v)
      | _ => rfl
    rw [hoo]
    have HP := Lib.hid (fun (w w2 w3 : World) (a b' c : Value) (htf : TF X B mb cb inp fuel s W (.mk 5 nn ks cs) 5 nn Ak ks.length ck (some ⟨b, oo, none⟩) cs.length cc e (.pointer pq) w) (hst : Stp B mb cb w w2) (hgr : s.dec.fns.length ≤ s'.fns.length ∧ s.dec.cells.length ≤ s'.cells.length) (ho : OutIn (Bx X (W.heap.size + 1)) B mb cb inp fuel.dec w2 a b' c (r, s')) (hb : Below w2.heap.size w2 w3) => htf.off hlm hst hgr hnv ho hb)
    have hclI0 : (0 : Int) < (cs.length : Int) := by omega
    have hcl0 : 0 < cs.length := by omega
    clear h hX hc he hl hS hlm hK hsm hok hn hle ho1 hk0 hk1 hoo hcs hcs0 hnv hv
    generalize ks.length = kl at *
    generalize cs.length = cl at *
    go_enter Tryd.func28, Tryd.ntmps28
    go_wp2_with (first
      | (go_at_call 44; refine HS.out.mono ?_; rintro en w1 ⟨rfl, htf⟩; obtain ⟨q0, q1, q2, q3, q4, q5, q6⟩ := htf.cells; obtain ⟨r0, r1, r2, r3⟩ := HK0.out w1 htf; have HTF := Lib.hid htf; clear htf)
      | (go_at_call 28; refine (HT.out _ HTF.out).mono ?_; rintro en w2 ⟨hst, hgr, k3, m3', A3', l3, d3', rfl, ho⟩; obtain ⟨p1, p2, ⟨f0, f1, f2, ff⟩, hR⟩ := HP.out _ w2 _ _ _ _ HTF.out hst hgr ho (below_al1 w2 (.cells #[.int .i64 k3, .int .i64 m3', .slice A3' l3 d3'] 65)); have HR := Lib.hid hR; have HOF := Lib.hid p1; clear hR p1 hst hgr ho)
      | (go_at_call 50; refine HOF.out.mono ?_; rintro en w4 ⟨rfl, rfl⟩))
    exact bodyPost_ret (v := zeroV) (by simp [results, Tryd.results28, go_sem, f0, f1, f2]) rfl HR.out
end
end Go.Proofs.YtnolhcdfknjncaaDoor

/-
  The document's run: a term: a switch.
-/
set_option linter.unusedVariables false
set_option linter.unusedSimpArgs false
namespace Go.Proofs.YtnolhcdfknjncaaDoor
open Go.RowKit

section
variable {X Y Y' : Nat → Prop} {B mb cb n : Nat} {inp : List Int} {fuel : FL} {s s1 : St} {cut stk rai : Bool} {x0 x1 x2 : Value} {W W' W1 W2 W3 V0 V w w' : World} {o : Out}
theorem whichAt_le (ks : List Int) (key : Int) : whichAt ks key ≤ ks.length := by
  unfold whichAt
  split
  · rename_i i hi
    have := (List.findIdx?_eq_some_iff_getElem.1 hi).1
    omega
  · exact Nat.zero_le _
def swO (rec : Core → PEnv → St → Out) (ks : List Int) (cs : List Core) (e : PEnv) (o1 : Out) : Out := match o1 with | (.val v, s') => (match keyOf v with | some key => rec (cs[1 + whichAt ks key]?.getD default) e s' | none => (.stuck, s')) | o => o
set_option maxRecDepth 100000 in
set_option maxHeartbeats 4000000 in
theorem rterm_switch (hok : RTermOk B mb cb inp n) (h : RGo X B mb cb inp fuel s W) (hX : ∀ k, X k → k < W.heap.size) {nn : Int} {ks : List Int} {cs : List Core} {Ak Ac : Option Addr} {ck cc b oo : Nat} {G0 G1 G2 G3 : Nat → Value} (hc : CoreIn B W (.mk 9 nn ks cs) #[.int .i64 9, .int .i64 nn, .slice Ak ks.length ck, .slice Ac cs.length cc]) (hks : IntsIn B W Ak ks) (hK : KidsIn B W Ac cs b oo G0 G1 G2 G3) (hcs : cs.length = ks.length + 2) (hk1000 : ks.length ≤ 1000) (hsm : ∀ c ∈ cs, SmallT c) {e : PEnv} {pq : Option Addr} (he : EIn X s.fns.length s.cells.length W e (.pointer pq)) (hl : s.left ≠ 0) (hn : s.left < n + 1) :
    Calls Tryd.prog 28 #[.pointer (some ⟨cb, 0, none⟩), .agg #[.int .i64 9, .int .i64 nn, .slice Ak ks.length ck, .slice Ac cs.length cc], .pointer pq] W (ROut X B mb cb inp fuel s (swO (ev inp n) ks cs e (ev inp n (cs[0]?.getD default) e s.dec)) W) := by
  generalize hV0 : ((W.alloc (.cells #[.int .i64 9, .int .i64 nn, .slice Ak ks.length ck, .slice Ac cs.length cc] 26)).alloc (.cells #[.int .i64 0, .int .i64 0, .slice none 0 0] 65)) = V0
  obtain ⟨hS, mc⟩ := rterm_frame h hX hc he hl V0 hV0
  have HS := Lib.hid hS
  have hlm := h.limB
  have hlt := own_lt h
  have hBm : B ≤ mb ∧ B ≤ cb := ⟨h.hmb, h.hcb⟩
  have hBW := h.hBW
  have hcs0 : 0 < cs.length := by omega
  have hc0 : cs[0]?.getD default = cs[0] := by simp [hcs0]
  rw [hc0]
  obtain ⟨g0, g1, A1, m1, d1, A1', m1', d1', hbB, rfl, hk0⟩ := kid_cells hK hcs0
  simp only [Nat.zero_mul, Nat.add_zero] at hk0
  have HK0 := Lib.hid (fun (w : World) (htf : TF X B mb cb inp fuel s W (.mk 9 nn ks cs) 9 nn Ak ks.length ck (some ⟨b, oo, none⟩) cs.length cc e (.pointer pq) w) => (hk0 w htf.st.bel).1)
  have HT := Lib.hid (fun (w : World) (htf : TF X B mb cb inp fuel s W (.mk 9 nn ks cs) 9 nn Ak ks.length ck (some ⟨b, oo, none⟩) cs.length cc e (.pointer pq) w) =>
    hok (Bx X (W.heap.size + 1)) fuel.dec s.dec w cs[0] _ _ _ _ e (.pointer pq) htf.go_ htf.hX (hk0 w htf.st.bel).2 (hsm _ (List.getElem_mem hcs0)) htf.env (show s.left - 1 < n by omega))
  have hle := (ev_le inp n cs[0] e s.dec).left
  obtain ⟨o1, ho1⟩ : ∃ o1, ev inp n cs[0] e s.dec = o1 := ⟨_, rfl⟩
  rw [ho1] at HT hle ⊢
  obtain ⟨r, s'⟩ := o1
  have hno : ∀ k, W.heap.size ≤ k → ¬ Own2 mb cb k := fun k hk e => by rcases e with e | e <;> omega
  have hnb : ¬ Own2 mb cb b := fun e => by rcases e with e | e <;> omega
  have hclI0 : (0 : Int) < (cs.length : Int) := by omega
  have hcl0 : 0 < cs.length := by omega
  by_cases hv : ∃ v, r = .val v
  · obtain ⟨v, rfl⟩ := hv
    rcases hkey : keyOf v with _ | key
    · have hoo : swO (ev inp n) ks cs e (.val v, s') = (.stuck, s') := by simp only [swO, hkey]
      rw [hoo]
      have HX2 := Lib.hid (fun (w w2 : World) (k3 m3' : Int) (A3' : Option Addr) (l3 d3' : Nat) (htf : TF X B mb cb inp fuel s W (.mk 9 nn ks cs) 9 nn Ak ks.length ck (some ⟨b, oo, none⟩) cs.length cc e (.pointer pq) w) (hst : Stp B mb cb w w2) (hgr : s.dec.fns.length ≤ s'.fns.length ∧ s.dec.cells.length ≤ s'.cells.length) (hg : RGo (Bx X (W.heap.size + 1)) B mb cb inp fuel.dec s' w2) (hvv : VIn (Bx X (W.heap.size + 1)) s'.fns.length s'.cells.length w2 v (.int .i64 k3) (.int .i64 m3') (.slice A3' l3 d3')) =>
        (show ∀ w3, (w2.alloc (.cells #[.int .i64 k3, .int .i64 m3', .slice A3' l3 d3'] 65)) = w3 → Calls Tryd.prog 50 #[.pointer (some ⟨mb, 0, none⟩)] w3 (fun e w' => e = .returned (.bool false) ∧ w3 = w') ∧ (w3.cell? ⟨cb, 0, none⟩ = some (.pointer (some ⟨mb, 0, none⟩)) ∧ w3.cell? ⟨w2.heap.size, 0, none⟩ = some (.int .i64 k3) ∧ w3.cell? ⟨w2.heap.size, 1, none⟩ = some (.int .i64 m3') ∧ w3.cell? ⟨w2.heap.size, 2, none⟩ = some (.slice A3' l3 d3')) ∧
            Calls Tryd.prog 51 #[.agg #[.int .i64 k3, .int .i64 m3', .slice A3' l3 d3']] w3 (fun e w' => e = .returned (.tuple #[.int .i64 0, .bool false]) ∧ w'.cell? ⟨cb, 0, none⟩ = some (.pointer (some ⟨mb, 0, none⟩)) ∧
              Calls Tryd.prog 46 #[.pointer (some ⟨mb, 0, none⟩)] w' (fun en w5 => ∃ kz nz Az lz dz, en = .returned (.agg #[.int .i64 kz, .int .i64 nz, .slice Az lz dz]) ∧ (w5.cell? ⟨W.heap.size + 1, 0, none⟩ = some (.int .i64 0) ∧ w5.cell? ⟨W.heap.size + 1, 1, none⟩ = some (.int .i64 0) ∧ w5.cell? ⟨W.heap.size + 1, 2, none⟩ = some (.slice none 0 0) ∧ (∀ i, w5.frozen? ⟨W.heap.size + 1, i, none⟩ = false)) ∧
                ROut X B mb cb inp fuel s (.stuck, s') W (.returned (.agg #[.int .i64 kz, .int .i64 nz, .slice Az lz dz])) (((w5.setCell ⟨W.heap.size + 1, 0, none⟩ (.int .i64 kz)).setCell ⟨W.heap.size + 1, 1, none⟩ (.int .i64 nz)).setCell ⟨W.heap.size + 1, 2, none⟩ (.slice Az lz dz)))) from by
          intro w3 hw3
          have hal := below_al1 w2 (.cells #[.int .i64 k3, .int .i64 m3', .slice A3' l3 d3'] 65)
          have hnw := new1 w2 (.cells #[.int .i64 k3, .int .i64 m3', .slice A3' l3 d3'] 65)
          rw [hw3] at hal hnw
          have hg3 := hg.below hal
          refine ⟨roff_any hg3, ⟨hg3.cells.2.2.2.2.2.2.2.2.2.2, cell_block hnw rfl, cell_block hnw rfl, cell_block hnw rfl⟩, (rkey_any hvv w3).mono fun en w' hp => ?_⟩
          rcases hp with ⟨k, hk, _⟩ | ⟨_, rfl, hb⟩
          · rw [hkey] at hk; cases hk
          · exact ⟨rfl, (hg3.below hb).cells.2.2.2.2.2.2.2.2.2.2, (rstop_any (hg3.below hb)).mono fun en w5 hp => htf.ret (s1 := s') ((hst.trans (Stp.below hal hg.hBW)).trans (Stp.below hb hg3.hBW)) hgr (ROut.upd (ROut.stop hp) htf.lim.2 hlm)⟩))
      clear h hX hc he hl hS hlm hK hsm hok hn hle ho1 hk0 hoo hcs hcs0 hks hkey hc0
      generalize ks.length = kl at *
      generalize cs.length = cl at *
      go_enter Tryd.func28, Tryd.ntmps28
      go_wp2_with (first
        | (go_at_call 44; refine HS.out.mono ?_; rintro en w1 ⟨rfl, htf⟩; obtain ⟨q0, q1, q2, q3, q4, q5, q6⟩ := htf.cells; obtain ⟨r0, r1, r2, r3⟩ := HK0.out w1 htf; have HTF := Lib.hid htf; clear htf)
        | (go_at_call 28; refine (HT.out _ HTF.out).mono ?_; rintro en w2 ⟨hst, hgr, k3, m3', A3', l3, d3', rfl, hg, hvv⟩; obtain ⟨p, hpp⟩ : ∃ p, w2.heap.size = p := ⟨_, rfl⟩; have HX3 := Lib.hid (HX2.out _ w2 k3 m3' A3' l3 d3' HTF.out hst hgr hg hvv); generalize hw3 : (w2.alloc (.cells #[.int .i64 k3, .int .i64 m3', .slice A3' l3 d3'] 65)) = w3; obtain ⟨hOF, ⟨p4, p5, p6, p7⟩, hKY⟩ := HX3.out w3 hw3; have HOF := Lib.hid hOF; have HKY := Lib.hid hKY; rw [hpp] at p5 p6 p7; clear hOF hKY hst hgr hg hvv HX3)
        | (go_at_call 50; refine HOF.out.mono ?_; rintro en w4 ⟨rfl, rfl⟩)
        | (go_at_call 51; refine HKY.out.mono ?_; rintro en w4 ⟨rfl, p8, hSTP⟩; have HSTP := Lib.hid hSTP; clear hSTP)
        | (go_at_call 46; refine HSTP.out.mono ?_; rintro e w' ⟨k, n, A, l, d, rfl, ⟨f0, f1, f2, ff⟩, hR⟩; have HR := Lib.hid hR; clear hR))
      exact bodyPost_ret (v := .agg #[.int .i64 k, .int .i64 n, .slice A l d]) (by simp [results, Tryd.results28, go_sem, f0, f1, f2]) rfl HR.out
    · obtain ⟨j, hj⟩ : ∃ j, whichAt ks key = j := ⟨_, rfl⟩
      have hjl : j ≤ ks.length := hj ▸ whichAt_le ks key
      have hj1 : 1 + j < cs.length := by omega
      have hoo : swO (ev inp n) ks cs e (.val v, s') = ev inp n cs[1 + j] e s' := by simp only [swO, hkey, hj, List.getElem?_eq_getElem hj1, Option.getD_some]
      rw [hoo]
      obtain ⟨y0, y1, A2, m2, d2, A3, m3, d3, -, -, hk1⟩ := kid_cells hK hj1
      have HX2 := Lib.hid (fun (w w2 : World) (k3 m3' : Int) (A3' : Option Addr) (l3 d3' : Nat) (htf : TF X B mb cb inp fuel s W (.mk 9 nn ks cs) 9 nn Ak ks.length ck (some ⟨b, oo, none⟩) cs.length cc e (.pointer pq) w) (hst : Stp B mb cb w w2) (hgr : s.dec.fns.length ≤ s'.fns.length ∧ s.dec.cells.length ≤ s'.cells.length) (hg : RGo (Bx X (W.heap.size + 1)) B mb cb inp fuel.dec s' w2) (hvv : VIn (Bx X (W.heap.size + 1)) s'.fns.length s'.cells.length w2 v (.int .i64 k3) (.int .i64 m3') (.slice A3' l3 d3')) =>
        (show ∀ w3, (w2.alloc (.cells #[.int .i64 k3, .int .i64 m3', .slice A3' l3 d3'] 65)) = w3 → Calls Tryd.prog 50 #[.pointer (some ⟨mb, 0, none⟩)] w3 (fun e w' => e = .returned (.bool false) ∧ w3 = w') ∧ (w3.cell? ⟨cb, 0, none⟩ = some (.pointer (some ⟨mb, 0, none⟩)) ∧ w3.cell? ⟨w2.heap.size, 0, none⟩ = some (.int .i64 k3) ∧ w3.cell? ⟨w2.heap.size, 1, none⟩ = some (.int .i64 m3') ∧ w3.cell? ⟨w2.heap.size, 2, none⟩ = some (.slice A3' l3 d3')) ∧
            Calls Tryd.prog 51 #[.agg #[.int .i64 k3, .int .i64 m3', .slice A3' l3 d3']] w3 (fun en4 w4 => en4 = .returned (.tuple #[.int .i64 key, .bool true]) ∧ (w4.cell? ⟨W.heap.size, 2, none⟩ = some (.slice Ak ks.length ck) ∧ w4.cell? ⟨W.heap.size, 3, none⟩ = some (.slice (some ⟨b, oo, none⟩) cs.length cc) ∧ w4.cell? ⟨b, oo + (1 + j) * 4, none⟩ = some (.int .i64 y0) ∧ w4.cell? ⟨b, oo + (1 + j) * 4 + 1, none⟩ = some (.int .i64 y1) ∧ w4.cell? ⟨b, oo + (1 + j) * 4 + 2, none⟩ = some (.slice A2 m2 d2) ∧ w4.cell? ⟨b, oo + (1 + j) * 4 + 3, none⟩ = some (.slice A3 m3 d3)) ∧
              (∀ V V', (V.cell? ⟨W.heap.size, 2, none⟩ = some (.slice Ak ks.length ck) ∧ V.cell? ⟨W.heap.size, 3, none⟩ = some (.slice (some ⟨b, oo, none⟩) cs.length cc) ∧ V.cell? ⟨b, oo + (1 + j) * 4, none⟩ = some (.int .i64 y0) ∧ V.cell? ⟨b, oo + (1 + j) * 4 + 1, none⟩ = some (.int .i64 y1) ∧ V.cell? ⟨b, oo + (1 + j) * 4 + 2, none⟩ = some (.slice A2 m2 d2) ∧ V.cell? ⟨b, oo + (1 + j) * 4 + 3, none⟩ = some (.slice A3 m3 d3)) → Stp B mb cb V V' → V'.cell? ⟨W.heap.size, 2, none⟩ = some (.slice Ak ks.length ck) ∧ V'.cell? ⟨W.heap.size, 3, none⟩ = some (.slice (some ⟨b, oo, none⟩) cs.length cc) ∧ V'.cell? ⟨b, oo + (1 + j) * 4, none⟩ = some (.int .i64 y0) ∧ V'.cell? ⟨b, oo + (1 + j) * 4 + 1, none⟩ = some (.int .i64 y1) ∧ V'.cell? ⟨b, oo + (1 + j) * 4 + 2, none⟩ = some (.slice A2 m2 d2) ∧ V'.cell? ⟨b, oo + (1 + j) * 4 + 3, none⟩ = some (.slice A3 m3 d3)) ∧ (∀ (V : World) (i : Nat) (x : Value), (V.cell? ⟨W.heap.size, 2, none⟩ = some (.slice Ak ks.length ck) ∧ V.cell? ⟨W.heap.size, 3, none⟩ = some (.slice (some ⟨b, oo, none⟩) cs.length cc) ∧ V.cell? ⟨b, oo + (1 + j) * 4, none⟩ = some (.int .i64 y0) ∧ V.cell? ⟨b, oo + (1 + j) * 4 + 1, none⟩ = some (.int .i64 y1) ∧ V.cell? ⟨b, oo + (1 + j) * 4 + 2, none⟩ = some (.slice A2 m2 d2) ∧ V.cell? ⟨b, oo + (1 + j) * 4 + 3, none⟩ = some (.slice A3 m3 d3)) → (V.setCell ⟨W.heap.size + 1, i, none⟩ x).cell? ⟨W.heap.size, 2, none⟩ = some (.slice Ak ks.length ck) ∧ (V.setCell ⟨W.heap.size + 1, i, none⟩ x).cell? ⟨W.heap.size, 3, none⟩ = some (.slice (some ⟨b, oo, none⟩) cs.length cc) ∧ (V.setCell ⟨W.heap.size + 1, i, none⟩ x).cell? ⟨b, oo + (1 + j) * 4, none⟩ = some (.int .i64 y0) ∧ (V.setCell ⟨W.heap.size + 1, i, none⟩ x).cell? ⟨b, oo + (1 + j) * 4 + 1, none⟩ = some (.int .i64 y1) ∧ (V.setCell ⟨W.heap.size + 1, i, none⟩ x).cell? ⟨b, oo + (1 + j) * 4 + 2, none⟩ = some (.slice A2 m2 d2) ∧ (V.setCell ⟨W.heap.size + 1, i, none⟩ x).cell? ⟨b, oo + (1 + j) * 4 + 3, none⟩ = some (.slice A3 m3 d3)) ∧ Calls Tryd.prog 52 #[.slice Ak ks.length ck, .int .i64 key] w4.drew (fun e w' => e = .returned (.int .i64 (j : Int)) ∧ w4.drew = w') ∧
              Calls Tryd.prog 28 #[.pointer (some ⟨cb, 0, none⟩), .agg #[.int .i64 y0, .int .i64 y1, .slice A2 m2 d2, .slice A3 m3 d3], .pointer pq] w4.drew (fun en w5 => Stp B mb cb w4.drew w5 ∧ ∃ kz nz Az lz dz, en = .returned (.agg #[.int .i64 kz, .int .i64 nz, .slice Az lz dz]) ∧ (w5.cell? ⟨W.heap.size + 1, 0, none⟩ = some (.int .i64 0) ∧ w5.cell? ⟨W.heap.size + 1, 1, none⟩ = some (.int .i64 0) ∧ w5.cell? ⟨W.heap.size + 1, 2, none⟩ = some (.slice none 0 0) ∧ (∀ i, w5.frozen? ⟨W.heap.size + 1, i, none⟩ = false)) ∧
                ROut X B mb cb inp fuel s (ev inp n cs[1 + j] e s') W (.returned (.agg #[.int .i64 kz, .int .i64 nz, .slice Az lz dz])) (((w5.setCell ⟨W.heap.size + 1, 0, none⟩ (.int .i64 kz)).setCell ⟨W.heap.size + 1, 1, none⟩ (.int .i64 nz)).setCell ⟨W.heap.size + 1, 2, none⟩ (.slice Az lz dz)))) from by
          intro w3 hw3
          have hal := below_al1 w2 (.cells #[.int .i64 k3, .int .i64 m3', .slice A3' l3 d3'] 65)
          have hnw := new1 w2 (.cells #[.int .i64 k3, .int .i64 m3', .slice A3' l3 d3'] 65)
          rw [hw3] at hal hnw
          have hg3 := hg.below hal
          refine ⟨roff_any hg3, ⟨hg3.cells.2.2.2.2.2.2.2.2.2.2, cell_block hnw rfl, cell_block hnw rfl, cell_block hnw rfl⟩, (rkey_any hvv w3).mono fun en w4 hp => ?_⟩
          rcases hp with ⟨k, hk, rfl, hb⟩ | ⟨h0, _⟩
          · rw [hkey] at hk
            simp only [Option.some.injEq] at hk
            subst hk
            have hst4 : Stp B mb cb w w4 := (hst.trans (Stp.below hal hg.hBW)).trans (Stp.below hb hg3.hBW)
            obtain ⟨⟨u0, u1, u2, u3⟩, hXl, hbW, hszl⟩ := htf.later hst4
            have hd : Below w4.heap.size w4 w4.drew := (Below.refl _ _).drew
            obtain ⟨⟨t0, t1, t2, t3⟩, hcore⟩ := hk1 w4 hbW
            have hg4 := hg3.below hb
            have hks2 : KpX (Bx X (W.heap.size + 1)) w w4 := hst4.kp.mono (fun k hk => .inl (htf.hO k hk))
            refine ⟨rfl, ⟨u2, u3, t0, t1, t2, t3⟩, fun V V' hq hst' => ⟨hst'.kp.cell hq.1 (hno _ (Nat.le_refl _)), hst'.kp.cell hq.2.1 (hno _ (Nat.le_refl _)), hst'.kp.cell hq.2.2.1 (hnb), hst'.kp.cell hq.2.2.2.1 (hnb), hst'.kp.cell hq.2.2.2.2.1 (hnb), hst'.kp.cell hq.2.2.2.2.2 (hnb)⟩, fun V i x hq => ⟨(World.cell?_setCell_far V _ (⟨W.heap.size, _, none⟩ : Addr) _ (show W.heap.size + 1 ≠ W.heap.size by omega)).trans hq.1, (World.cell?_setCell_far V _ (⟨W.heap.size, _, none⟩ : Addr) _ (show W.heap.size + 1 ≠ W.heap.size by omega)).trans hq.2.1, (World.cell?_setCell_far V _ (⟨b, _, none⟩ : Addr) _ (show W.heap.size + 1 ≠ b by omega)).trans hq.2.2.1, (World.cell?_setCell_far V _ (⟨b, _, none⟩ : Addr) _ (show W.heap.size + 1 ≠ b by omega)).trans hq.2.2.2.1, (World.cell?_setCell_far V _ (⟨b, _, none⟩ : Addr) _ (show W.heap.size + 1 ≠ b by omega)).trans hq.2.2.2.2.1, (World.cell?_setCell_far V _ (⟨b, _, none⟩ : Addr) _ (show W.heap.size + 1 ≠ b by omega)).trans hq.2.2.2.2.2⟩, (rwhich_any Ak ck ks key B w4.drew (hks.below (hbW.trans (hd.mono hg4.hBW)))).mono fun e w' hp => ⟨hp.1.trans (by rw [hj]), hp.2⟩, ?_⟩
            exact (hok (Bx X (W.heap.size + 1)) fuel.dec s' w4.drew cs[1 + j] _ _ _ _ e _ (hg4.below hd) (fun k hk => hXl k hk) (hcore.kept (hd.mono hg4.hBW)) (hsm _ (List.getElem_mem hj1)) ((htf.env.step hks2 hgr.1 hgr.2).step (KpX.below hd) (Nat.le_refl _) (Nat.le_refl _)) (show s'.left < n by have : s'.left ≤ s.left - 1 := hle; omega)).mono fun en w5 hp => ⟨hp.1, htf.ret (s1 := s') (hst4.trans (Stp.below hd hg4.hBW)) hgr (ROut.upd hp htf.lim.2 hlm)⟩
          · rw [hkey] at h0; cases h0))
      have hw : IntKind.i64.wrap (1 + (j : Int)) = 1 + (j : Int) := by rw [IntKind.wrap_i64]; omega
      have hw2 : (1 + (j : Int)).toNat = 1 + j := by omega
      have hw3 : (0 : Int) ≤ 1 + (j : Int) := by omega
      have hw4 : 1 + (j : Int) < (cs.length : Int) := by omega
      generalize hoe : ev inp n cs[1 + j] e s' = o at *
      clear h hX hc he hl hS hlm hK hsm hok hn hle ho1 hk0 hk1 hoo hcs hcs0 hks hkey hc0 hj hoe hj1
      generalize ks.length = kl at *
      generalize cs.length = cl at *
      go_enter Tryd.func28, Tryd.ntmps28
      go_wp2_with (first
        | (go_at_call 44; refine HS.out.mono ?_; rintro en w1 ⟨rfl, htf⟩; obtain ⟨q0, q1, q2, q3, q4, q5, q6⟩ := htf.cells; obtain ⟨r0, r1, r2, r3⟩ := HK0.out w1 htf; have HTF := Lib.hid htf; clear htf)
        | (go_at_call 28; refine (HT.out _ HTF.out).mono ?_; rintro en w2 ⟨hst, hgr, k3, m3', A3', l3, d3', rfl, hg, hvv⟩; obtain ⟨p, hpp⟩ : ∃ p, w2.heap.size = p := ⟨_, rfl⟩; have HX3 := Lib.hid (HX2.out _ w2 k3 m3' A3' l3 d3' HTF.out hst hgr hg hvv); generalize hw3 : (w2.alloc (.cells #[.int .i64 k3, .int .i64 m3', .slice A3' l3 d3'] 65)) = w3; obtain ⟨hOF, ⟨p4, p5, p6, p7⟩, hKY⟩ := HX3.out w3 hw3; have HOF := Lib.hid hOF; have HKY := Lib.hid hKY; rw [hpp] at p5 p6 p7; clear hOF hKY hst hgr hg hvv HX3)
        | (go_at_call 50; refine HOF.out.mono ?_; rintro en w4 ⟨rfl, rfl⟩)
        | (go_at_call 51; refine HKY.out.mono ?_; rintro en w4 ⟨rfl, hSP, hSS, hSF, hWH, hTT⟩; have HSP := Lib.hid hSP; have HSS := Lib.hid hSS; have HSF := Lib.hid hSF; have HWH := Lib.hid hWH; have HTT := Lib.hid hTT; clear hSP hSS hSF hWH hTT))
      clear HX2 HT HK0 HS HOF HKY HTF q0 q1 q2 q3 r0 r1 r2 r3
      have HSD := Lib.hid (show w4.drew.cell? ⟨W.heap.size, 2, none⟩ = some (.slice Ak kl ck) ∧ w4.drew.cell? ⟨W.heap.size, 3, none⟩ = some (.slice (some ⟨b, oo, none⟩) cl cc) ∧ w4.drew.cell? ⟨b, oo + (1 + j) * 4, none⟩ = some (.int .i64 y0) ∧ w4.drew.cell? ⟨b, oo + (1 + j) * 4 + 1, none⟩ = some (.int .i64 y1) ∧ w4.drew.cell? ⟨b, oo + (1 + j) * 4 + 2, none⟩ = some (.slice A2 m2 d2) ∧ w4.drew.cell? ⟨b, oo + (1 + j) * 4 + 3, none⟩ = some (.slice A3 m3 d3) from HSP.out)
      go_region_held2 (fun V => V.cell? ⟨W.heap.size, 2, none⟩ = some (.slice Ak kl ck) ∧ V.cell? ⟨W.heap.size, 3, none⟩ = some (.slice (some ⟨b, oo, none⟩) cl cc) ∧ V.cell? ⟨b, oo + (1 + j) * 4, none⟩ = some (.int .i64 y0) ∧ V.cell? ⟨b, oo + (1 + j) * 4 + 1, none⟩ = some (.int .i64 y1) ∧ V.cell? ⟨b, oo + (1 + j) * 4 + 2, none⟩ = some (.slice A2 m2 d2) ∧ V.cell? ⟨b, oo + (1 + j) * 4 + 3, none⟩ = some (.slice A3 m3 d3))
        (with_reducible (first | exact HSD.out | exact HSP.out | exact HSW.out | exact HSF.out _ _ _ (HSF.out _ _ _ (HSF.out _ _ _ HSW.out)) | exact HSF.out _ _ _ HSW.out))
        ((first
          | (go_at_call 52; refine HWH.out.mono ?_; rintro en w5 ⟨rfl, rfl⟩)
          | (go_at_call 28; refine HTT.out.mono ?_; rintro en w5 ⟨hstV, k, n, A, l, d, rfl, ⟨f0, f1, f2, ff⟩, hR⟩; have HSW := Lib.hid (HSS.out _ w5 HSD.out hstV); have HR := Lib.hid hR; clear hR hstV)))
      go_wp2_with fail
      exact bodyPost_ret (v := .agg #[.int .i64 k, .int .i64 n, .slice A l d]) (by simp [results, Tryd.results28, go_sem, f0, f1, f2]) rfl HR.out
  · have hnv : ∀ v, r ≠ .val v := fun v e => hv ⟨v, e⟩
    have hoo : swO (ev inp n) ks cs e (r, s') = (r, s') := by
      cases r with
      | val v => exact absurd rfl (hnv v)
      | _ => rfl
    rw [hoo]
    have HP := Lib.hid (fun (w w2 w3 : World) (a b' c : Value) (htf : TF X B mb cb inp fuel s W (.mk 9 nn ks cs) 9 nn Ak ks.length ck (some ⟨b, oo, none⟩) cs.length cc e (.pointer pq) w) (hst : Stp B mb cb w w2) (hgr : s.dec.fns.length ≤ s'.fns.length ∧ s.dec.cells.length ≤ s'.cells.length) (ho : OutIn (Bx X (W.heap.size + 1)) B mb cb inp fuel.dec w2 a b' c (r, s')) (hb : Below w2.heap.size w2 w3) => htf.off hlm hst hgr hnv ho hb)
    clear h hX hc he hl hS hlm hK hsm hok hn hle ho1 hk0 hoo hcs hcs0 hnv hv hks hc0
    generalize ks.length = kl at *
    generalize cs.length = cl at *
    go_enter Tryd.func28, Tryd.ntmps28
    go_wp2_with (first
      | (go_at_call 44; refine HS.out.mono ?_; rintro en w1 ⟨rfl, htf⟩; obtain ⟨q0, q1, q2, q3, q4, q5, q6⟩ := htf.cells; obtain ⟨r0, r1, r2, r3⟩ := HK0.out w1 htf; have HTF := Lib.hid htf; clear htf)
      | (go_at_call 28; refine (HT.out _ HTF.out).mono ?_; rintro en w2 ⟨hst, hgr, k3, m3', A3', l3, d3', rfl, ho⟩; obtain ⟨p1, p2, ⟨f0, f1, f2, ff⟩, hR⟩ := HP.out _ w2 _ _ _ _ HTF.out hst hgr ho (below_al1 w2 (.cells #[.int .i64 k3, .int .i64 m3', .slice A3' l3 d3'] 65)); have HR := Lib.hid hR; have HOF := Lib.hid p1; clear hR p1 hst hgr ho)
      | (go_at_call 50; refine HOF.out.mono ?_; rintro en w4 ⟨rfl, rfl⟩))
    exact bodyPost_ret (v := zeroV) (by simp [results, Tryd.results28, go_sem, f0, f1, f2]) rfl HR.out
end
end Go.Proofs.YtnolhcdfknjncaaDoor

/-
  The document's run: a term: functions that know one another.
-/
set_option linter.unusedVariables false
set_option linter.unusedSimpArgs false
namespace Go.Proofs.YtnolhcdfknjncaaDoor
open Go.RowKit

section
variable {X Y Y' : Nat → Prop} {B mb cb n : Nat} {inp : List Int} {fuel : FL} {s s1 : St} {cut stk rai : Bool} {x0 x1 x2 : Value} {W W' W1 W2 W3 V0 V w w' : World} {o : Out}
set_option maxRecDepth 100000 in
set_option maxHeartbeats 4000000 in
theorem rterm_fix (hok : RTermOk B mb cb inp n) (h : RGo X B mb cb inp fuel s W) (hX : ∀ k, X k → k < W.heap.size) {nn : Int} {ks : List Int} {cs : List Core} {Ak Ac : Option Addr} {ck cc b oo q : Nat} {G0 G1 G2 G3 : Nat → Value} (hc : CoreIn B W (.mk 6 nn ks cs) #[.int .i64 6, .int .i64 nn, .slice Ak ks.length ck, .slice Ac cs.length cc]) (hK : KidsIn B W Ac cs b oo G0 G1 G2 G3) (hcs : cs.length = q + 1) (hst : SmallT (.mk 6 nn ks cs)) {e : PEnv} {pq : Option Addr} (he : EIn X s.fns.length s.cells.length W e (.pointer pq)) (hl : s.left ≠ 0) (hn : s.left < n + 1) :
    Calls Tryd.prog 28 #[.pointer (some ⟨cb, 0, none⟩), .agg #[.int .i64 6, .int .i64 nn, .slice Ak ks.length ck, .slice Ac cs.length cc], .pointer pq] W (ROut X B mb cb inp fuel s (ev inp n (cs[cs.length - 1]?.getD default) (fixEnv ks s.fns.length e) { s.dec with fns := s.fns ++ fixFns (fixEnv ks s.fns.length e) ks cs }) W) := by
  generalize hV0 : ((W.alloc (.cells #[.int .i64 6, .int .i64 nn, .slice Ak ks.length ck, .slice Ac cs.length cc] 26)).alloc (.cells #[.int .i64 0, .int .i64 0, .slice none 0 0] 65)) = V0
  obtain ⟨hS, mc⟩ := rterm_frame h hX hc he hl V0 hV0
  have HS := Lib.hid hS
  have hlm := h.limB
  have hlt := own_lt h
  have hBm : B ≤ mb ∧ B ≤ cb := ⟨h.hmb, h.hcb⟩
  have hBW := h.hBW
  have hq : q < cs.length := by omega
  have hcq : cs[cs.length - 1]?.getD default = cs[q] := by rw [hcs, Nat.add_sub_cancel]; simp [hq]
  rw [hcq]
  obtain ⟨y0, y1, A2, m2, d2, A3, m3, d3, hbB, rfl, hk1⟩ := kid_cells hK hq
  have hno : ∀ k, W.heap.size ≤ k → ¬ Own2 mb cb k := fun k hk e => by rcases e with e | e <;> omega
  have hnb : ¬ Own2 mb cb b := fun e => by rcases e with e | e <;> omega
  have hsk : SmallT cs[q] := hst.kid (List.getElem_mem hq)
  have HX2 := Lib.hid (fun (w : World) (htf : TF X B mb cb inp fuel s W (.mk 6 nn ks cs) 6 nn Ak ks.length ck (some ⟨b, oo, none⟩) cs.length cc e (.pointer pq) w) =>
    (show (w.cell? ⟨W.heap.size, 0, none⟩ = some (.int .i64 6) ∧ w.cell? ⟨W.heap.size, 1, none⟩ = some (.int .i64 nn) ∧ w.cell? ⟨W.heap.size, 2, none⟩ = some (.slice Ak ks.length ck) ∧ w.cell? ⟨W.heap.size, 3, none⟩ = some (.slice (some ⟨b, oo, none⟩) cs.length cc) ∧ w.cell? ⟨b, oo + q * 4, none⟩ = some (.int .i64 y0) ∧ w.cell? ⟨b, oo + q * 4 + 1, none⟩ = some (.int .i64 y1) ∧ w.cell? ⟨b, oo + q * 4 + 2, none⟩ = some (.slice A2 m2 d2) ∧ w.cell? ⟨b, oo + q * 4 + 3, none⟩ = some (.slice A3 m3 d3)) ∧ (∀ V V', (V.cell? ⟨W.heap.size, 0, none⟩ = some (.int .i64 6) ∧ V.cell? ⟨W.heap.size, 1, none⟩ = some (.int .i64 nn) ∧ V.cell? ⟨W.heap.size, 2, none⟩ = some (.slice Ak ks.length ck) ∧ V.cell? ⟨W.heap.size, 3, none⟩ = some (.slice (some ⟨b, oo, none⟩) cs.length cc) ∧ V.cell? ⟨b, oo + q * 4, none⟩ = some (.int .i64 y0) ∧ V.cell? ⟨b, oo + q * 4 + 1, none⟩ = some (.int .i64 y1) ∧ V.cell? ⟨b, oo + q * 4 + 2, none⟩ = some (.slice A2 m2 d2) ∧ V.cell? ⟨b, oo + q * 4 + 3, none⟩ = some (.slice A3 m3 d3)) → Stp B mb cb V V' → V'.cell? ⟨W.heap.size, 0, none⟩ = some (.int .i64 6) ∧ V'.cell? ⟨W.heap.size, 1, none⟩ = some (.int .i64 nn) ∧ V'.cell? ⟨W.heap.size, 2, none⟩ = some (.slice Ak ks.length ck) ∧ V'.cell? ⟨W.heap.size, 3, none⟩ = some (.slice (some ⟨b, oo, none⟩) cs.length cc) ∧ V'.cell? ⟨b, oo + q * 4, none⟩ = some (.int .i64 y0) ∧ V'.cell? ⟨b, oo + q * 4 + 1, none⟩ = some (.int .i64 y1) ∧ V'.cell? ⟨b, oo + q * 4 + 2, none⟩ = some (.slice A2 m2 d2) ∧ V'.cell? ⟨b, oo + q * 4 + 3, none⟩ = some (.slice A3 m3 d3)) ∧ (∀ (V : World) (i : Nat) (x : Value), (V.cell? ⟨W.heap.size, 0, none⟩ = some (.int .i64 6) ∧ V.cell? ⟨W.heap.size, 1, none⟩ = some (.int .i64 nn) ∧ V.cell? ⟨W.heap.size, 2, none⟩ = some (.slice Ak ks.length ck) ∧ V.cell? ⟨W.heap.size, 3, none⟩ = some (.slice (some ⟨b, oo, none⟩) cs.length cc) ∧ V.cell? ⟨b, oo + q * 4, none⟩ = some (.int .i64 y0) ∧ V.cell? ⟨b, oo + q * 4 + 1, none⟩ = some (.int .i64 y1) ∧ V.cell? ⟨b, oo + q * 4 + 2, none⟩ = some (.slice A2 m2 d2) ∧ V.cell? ⟨b, oo + q * 4 + 3, none⟩ = some (.slice A3 m3 d3)) → (V.setCell ⟨W.heap.size + 1, i, none⟩ x).cell? ⟨W.heap.size, 0, none⟩ = some (.int .i64 6) ∧ (V.setCell ⟨W.heap.size + 1, i, none⟩ x).cell? ⟨W.heap.size, 1, none⟩ = some (.int .i64 nn) ∧ (V.setCell ⟨W.heap.size + 1, i, none⟩ x).cell? ⟨W.heap.size, 2, none⟩ = some (.slice Ak ks.length ck) ∧ (V.setCell ⟨W.heap.size + 1, i, none⟩ x).cell? ⟨W.heap.size, 3, none⟩ = some (.slice (some ⟨b, oo, none⟩) cs.length cc) ∧ (V.setCell ⟨W.heap.size + 1, i, none⟩ x).cell? ⟨b, oo + q * 4, none⟩ = some (.int .i64 y0) ∧ (V.setCell ⟨W.heap.size + 1, i, none⟩ x).cell? ⟨b, oo + q * 4 + 1, none⟩ = some (.int .i64 y1) ∧ (V.setCell ⟨W.heap.size + 1, i, none⟩ x).cell? ⟨b, oo + q * 4 + 2, none⟩ = some (.slice A2 m2 d2) ∧ (V.setCell ⟨W.heap.size + 1, i, none⟩ x).cell? ⟨b, oo + q * 4 + 3, none⟩ = some (.slice A3 m3 d3)) ∧
      Calls Tryd.prog 49 #[.pointer (some ⟨cb, 0, none⟩), .agg #[.int .i64 6, .int .i64 nn, .slice Ak ks.length ck, .slice (some ⟨b, oo, none⟩) cs.length cc], .pointer pq] w.drew (fun en w5 => ∃ gp, en = .returned (.pointer gp) ∧ Stp B mb cb w.drew w5 ∧
        Calls Tryd.prog 28 #[.pointer (some ⟨cb, 0, none⟩), .agg #[.int .i64 y0, .int .i64 y1, .slice A2 m2 d2, .slice A3 m3 d3], .pointer gp] w5 (fun en w6 => Stp B mb cb w5 w6 ∧ ∃ kz nz Az lz dz, en = .returned (.agg #[.int .i64 kz, .int .i64 nz, .slice Az lz dz]) ∧ (w6.cell? ⟨W.heap.size + 1, 0, none⟩ = some (.int .i64 0) ∧ w6.cell? ⟨W.heap.size + 1, 1, none⟩ = some (.int .i64 0) ∧ w6.cell? ⟨W.heap.size + 1, 2, none⟩ = some (.slice none 0 0) ∧ (∀ i, w6.frozen? ⟨W.heap.size + 1, i, none⟩ = false)) ∧
            ROut X B mb cb inp fuel s (ev inp n cs[q] (fixEnv ks s.fns.length e) { s.dec with fns := s.fns ++ fixFns (fixEnv ks s.fns.length e) ks cs }) W (.returned (.agg #[.int .i64 kz, .int .i64 nz, .slice Az lz dz])) (((w6.setCell ⟨W.heap.size + 1, 0, none⟩ (.int .i64 kz)).setCell ⟨W.heap.size + 1, 1, none⟩ (.int .i64 nz)).setCell ⟨W.heap.size + 1, 2, none⟩ (.slice Az lz dz)))) from by
      obtain ⟨u0, u1, u2, u3, -⟩ := htf.cells
      obtain ⟨⟨t0, t1, t2, t3⟩, hcore⟩ := hk1 w htf.st.bel
      have hd : Below w.heap.size w w.drew := (Below.refl _ _).drew
      have hBw := htf.go_.hBW
      refine ⟨⟨u0, u1, u2, u3, t0, t1, t2, t3⟩, fun V V' hq hst' => ⟨hst'.kp.cell hq.1 (hno _ (Nat.le_refl _)), hst'.kp.cell hq.2.1 (hno _ (Nat.le_refl _)), hst'.kp.cell hq.2.2.1 (hno _ (Nat.le_refl _)), hst'.kp.cell hq.2.2.2.1 (hno _ (Nat.le_refl _)), hst'.kp.cell hq.2.2.2.2.1 (hnb), hst'.kp.cell hq.2.2.2.2.2.1 (hnb), hst'.kp.cell hq.2.2.2.2.2.2.1 (hnb), hst'.kp.cell hq.2.2.2.2.2.2.2 (hnb)⟩, fun V i x hq => ⟨(World.cell?_setCell_far V _ (⟨W.heap.size, _, none⟩ : Addr) _ (show W.heap.size + 1 ≠ W.heap.size by omega)).trans hq.1, (World.cell?_setCell_far V _ (⟨W.heap.size, _, none⟩ : Addr) _ (show W.heap.size + 1 ≠ W.heap.size by omega)).trans hq.2.1, (World.cell?_setCell_far V _ (⟨W.heap.size, _, none⟩ : Addr) _ (show W.heap.size + 1 ≠ W.heap.size by omega)).trans hq.2.2.1, (World.cell?_setCell_far V _ (⟨W.heap.size, _, none⟩ : Addr) _ (show W.heap.size + 1 ≠ W.heap.size by omega)).trans hq.2.2.2.1, (World.cell?_setCell_far V _ (⟨b, _, none⟩ : Addr) _ (show W.heap.size + 1 ≠ b by omega)).trans hq.2.2.2.2.1, (World.cell?_setCell_far V _ (⟨b, _, none⟩ : Addr) _ (show W.heap.size + 1 ≠ b by omega)).trans hq.2.2.2.2.2.1, (World.cell?_setCell_far V _ (⟨b, _, none⟩ : Addr) _ (show W.heap.size + 1 ≠ b by omega)).trans hq.2.2.2.2.2.2.1, (World.cell?_setCell_far V _ (⟨b, _, none⟩ : Addr) _ (show W.heap.size + 1 ≠ b by omega)).trans hq.2.2.2.2.2.2.2⟩, ?_⟩
      refine (rfix_any (htf.go_.below hd) htf.hX htf.lim.1 (htf.cin.kept (hd.mono hBw)) hst rfl (htf.env.step (KpX.below hd) (Nat.le_refl _) (Nat.le_refl _))).mono fun en w5 hp => ?_
      obtain ⟨gp, rfl, hst5, hg5, he5⟩ := hp
      have hfu : fuel.dec.up = fuel := by have := htf.lim.2; cases fuel; simp only [FL.up, FL.dec] at this ⊢; rw [this]
      rw [hfu] at hg5
      refine ⟨gp, rfl, hst5, (hok (Bx X (W.heap.size + 1)) fuel _ w5 cs[q] _ _ _ _ _ (.pointer gp) hg5 (fun k hk => by have := htf.hX k hk; have := hst5.kp.size; have : w.drew.heap.size = w.heap.size := rfl; omega) (hcore.kept ((hd.mono hBw).trans hst5.bel)) hsk he5 (show s.left - 1 < n by omega)).mono fun en w6 hp => ⟨hp.1, ?_⟩⟩
      exact htf.ret (s1 := { s.dec with fns := s.fns ++ fixFns (fixEnv ks s.fns.length e) ks cs }) ((Stp.below hd hBw).trans hst5) ⟨by simp, Nat.le_refl _⟩ hp))
  generalize hoe : ev inp n cs[q] (fixEnv ks s.fns.length e) { s.dec with fns := s.fns ++ fixFns (fixEnv ks s.fns.length e) ks cs } = o at *
  have hq60 : q ≤ 2200000000000 := by have := hK.hcl; omega
  clear h hX hc he hl hS hlm hK hok hn hoe hcq hsk hst hk1 hq
  generalize ks.length = kl at *
  generalize cs.length = cl at *
  subst hcs
  have hw : IntKind.i64.wrap (q : Int) = (q : Int) := by rw [IntKind.wrap_i64]; omega
  have hqi : (0 : Int) ≤ (q : Int) := by omega
  have hqj : (q : Int) < (q : Int) + 1 := by omega
  go_enter Tryd.func28, Tryd.ntmps28
  go_wp2_with (first
    | (go_at_call 44; refine HS.out.mono ?_; rintro en w1 ⟨rfl, htf⟩; obtain ⟨q0, q1, q2, q3, q4, q5, q6⟩ := htf.cells; obtain ⟨hSP, hSS, hSF, hFX⟩ := HX2.out w1 htf; have HSP := Lib.hid hSP; have HSS := Lib.hid hSS; have HSF := Lib.hid hSF; have HFX := Lib.hid hFX; clear htf hSP hSS hSF hFX))
  clear HX2 HS q1 q2 q3 q4 q5 q6
  have HSD := Lib.hid (show w1.drew.cell? ⟨W.heap.size, 0, none⟩ = some (.int .i64 6) ∧ w1.drew.cell? ⟨W.heap.size, 1, none⟩ = some (.int .i64 nn) ∧ w1.drew.cell? ⟨W.heap.size, 2, none⟩ = some (.slice Ak kl ck) ∧ w1.drew.cell? ⟨W.heap.size, 3, none⟩ = some (.slice (some ⟨b, oo, none⟩) (q + 1) cc) ∧ w1.drew.cell? ⟨b, oo + q * 4, none⟩ = some (.int .i64 y0) ∧ w1.drew.cell? ⟨b, oo + q * 4 + 1, none⟩ = some (.int .i64 y1) ∧ w1.drew.cell? ⟨b, oo + q * 4 + 2, none⟩ = some (.slice A2 m2 d2) ∧ w1.drew.cell? ⟨b, oo + q * 4 + 3, none⟩ = some (.slice A3 m3 d3) from HSP.out)
  have hql : q < q + 1 := Nat.lt_succ_self q
  go_region_held2 (fun V => V.cell? ⟨W.heap.size, 0, none⟩ = some (.int .i64 6) ∧ V.cell? ⟨W.heap.size, 1, none⟩ = some (.int .i64 nn) ∧ V.cell? ⟨W.heap.size, 2, none⟩ = some (.slice Ak kl ck) ∧ V.cell? ⟨W.heap.size, 3, none⟩ = some (.slice (some ⟨b, oo, none⟩) (q + 1) cc) ∧ V.cell? ⟨b, oo + q * 4, none⟩ = some (.int .i64 y0) ∧ V.cell? ⟨b, oo + q * 4 + 1, none⟩ = some (.int .i64 y1) ∧ V.cell? ⟨b, oo + q * 4 + 2, none⟩ = some (.slice A2 m2 d2) ∧ V.cell? ⟨b, oo + q * 4 + 3, none⟩ = some (.slice A3 m3 d3))
    (with_reducible (first | exact HSD.out | exact HSP.out | exact HSW.out | exact HSX.out | exact HSF.out _ _ _ (HSF.out _ _ _ (HSF.out _ _ _ HSX.out)) | exact HSF.out _ _ _ HSX.out))
    ((first
      | (go_at_call 49; refine HFX.out.mono ?_; rintro en w5 ⟨gp, rfl, hst5, hTT⟩; have HTT := Lib.hid hTT; have HSW := Lib.hid (HSS.out _ w5 HSD.out hst5); clear hTT hst5)
      | (go_at_call 28; refine HTT.out.mono ?_; rintro en w6 ⟨hst6, k, n, A, l, d, rfl, ⟨f0, f1, f2, ff⟩, hR⟩; have HSX := Lib.hid (HSS.out _ w6 HSW.out hst6); have HR := Lib.hid hR; clear hR hst6)))
  go_wp2_with fail
  exact bodyPost_ret (v := .agg #[.int .i64 k, .int .i64 n, .slice A l d]) (by simp [results, Tryd.results28, go_sem, f0, f1, f2]) rfl HR.out
end
end Go.Proofs.YtnolhcdfknjncaaDoor
