/-
 2 texts of this seat in one: FV35 FV36.
-/
import Derived.Test.YtnobggabjpcbfaaGreatQI29
set_option maxRecDepth 100000
set_option maxHeartbeats 16000000
set_option linter.unusedVariables false
set_option linter.unusedSimpArgs false
namespace Go.Proofs.YtnobggabjpcbfaaGreat
open Go.RowKit
section
variable {X Y Y' : Nat → Prop} {B mb cb n : Nat} {p : FlatP} {fv : Value} {inp : List Int} {fuel : FL} {s s1 : FSt} {cut stk rai : Bool} {x0 x1 x2 : Value} {W W' W1 W2 W3 V0 V w' : World} {o : FOut}
def Nb (X : Nat → Prop) (V0 V : World) (k : Nat) : Prop := X k ∨ (V0.heap.size ≤ k ∧ k < V.heap.size)
theorem RIn.nb (h : RIn X B mb cb fv inp fuel s cut stk rai x0 x1 x2 V0) (hb : Below V0.heap.size V0 V) : RIn (Nb X V0 V) B mb cb fv inp fuel s cut stk rai x0 x1 x2 V :=
 (h.more (Y := Nb X V0 V) (fun k hk => hk.imp id (fun e => e.1)) (fun k hk => .inl (h.hX k hk))).below hb
theorem VIn.nb {nf nc : Nat} {v : PV} {a b c : Value} (h : VIn X nf nc V0 v a b c) (hb : Below V0.heap.size V0 V) : VIn (Nb X V0 V) nf nc V v a b c :=
 (h.more (Y := Nb X V0 V) (fun k hk => hk.imp id (fun e => e.1))).step (KpX.below hb) (Nat.le_refl _) (Nat.le_refl _)
abbrev set3' (w : World) (p : Nat) (y0 y1 y2 : Value) : World := ((w.setCell ⟨p, 0, none⟩ y0).setCell ⟨p, 1, none⟩ y1).setCell ⟨p, 2, none⟩ y2
structure TryMid (X : Nat → Prop) (B mb cb : Nat) (fv : Value) (inp : List Int) (fuel : FL) (s : FSt) (o1 : FOut) (W w : World) (b p : Nat) (k n : Int) (A : Option Addr) (l d : Nat) (l1 : PV) (bb oo : Nat) (b0 b1 b2 : Value) : Prop where
 st : Stp B mb cb W w
 gr : s.made.length ≤ o1.2.made.length ∧ s.cells.length ≤ o1.2.cells.length
 out : OutIn X B mb cb fv inp fuel w (.int .i64 k) (.int .i64 n) (.slice A l d) o1
 box : w.heap[b]? = some (.cells #[.int .i64 0, .int .i64 0, .slice none 0 0] 46 (0, 0))
 val : VIn X o1.2.made.length o1.2.cells.length w l1 b0 b1 b2
 cel : w.cell? ⟨bb, oo + 3, none⟩ = some b0 ∧ w.cell? ⟨bb, oo + 3 + 1, none⟩ = some b1 ∧ w.cell? ⟨bb, oo + 3 + 2, none⟩ = some b2
 pc : w.cell? ⟨p, 0, none⟩ = some (.int .i64 k) ∧ w.cell? ⟨p, 1, none⟩ = some (.int .i64 n) ∧ w.cell? ⟨p, 2, none⟩ = some (.slice A l d)
theorem try_mid {o1 : FOut} {b : Nat} {k n : Int} {A : Option Addr} {l d : Nat} {l1 : PV} {bb oo : Nat} {b0 b1 b2 : Value} {e : Ending} (hBW : B ≤ W.heap.size) (hm : mb < W.heap.size ∧ cb < W.heap.size) (hst0 : Stp B mb cb W V0) (hb : Below V0.heap.size V0 V) (hb0 : W.heap.size ≤ b) (hbV : b < V0.heap.size) (hbx : V0.heap[b]? = some (.cells #[.int .i64 0, .int .i64 0, .slice none 0 0] 46 (0, 0))) (hX : ∀ k, Own2 mb cb k → X k)
 (hv : VIn X s.made.length s.cells.length V0 l1 b0 b1 b2) (c0 : V0.cell? ⟨bb, oo + 3, none⟩ = some b0) (c1 : V0.cell? ⟨bb, oo + 3 + 1, none⟩ = some b1) (c2 : V0.cell? ⟨bb, oo + 3 + 2, none⟩ = some b2) (hbb : ¬ X bb)
 (hst : Stp B mb cb V w') (hgr : s.made.length ≤ o1.2.made.length ∧ s.cells.length ≤ o1.2.cells.length) (ho : OutIn (Nb X V0 V) B mb cb fv inp fuel w' (.int .i64 k) (.int .i64 n) (.slice A l d) o1) :
 (∀ p, V0.heap.size ≤ p → p < V.heap.size → V.heap[p]? = some (.cells #[.int .i64 0, .int .i64 0, .slice none 0 0] 46 (0, 0)) → TryMid X B mb cb fv inp fuel s o1 W (set3' w' p (.int .i64 k) (.int .i64 n) (.slice A l d)) b p k n A l d l1 bb oo b0 b1 b2 ∧ (w'.cell? ⟨p, 0, none⟩ = some (.int .i64 0) ∧ w'.cell? ⟨p, 1, none⟩ = some (.int .i64 0) ∧ w'.cell? ⟨p, 2, none⟩ = some (.slice none 0 0) ∧ ∀ i, w'.frozen? ⟨p, i, none⟩ = false)) ∧
 TryMid X B mb cb fv inp fuel s o1 W (w'.alloc (.cells #[.int .i64 k, .int .i64 n, .slice A l d] 46)) b w'.heap.size k n A l d l1 bb oo b0 b1 b2 := by
 have hszV := hb.size
 have hsz0 := hst0.kp.size
 have hsw := hst.kp.size
 have hB0 : B ≤ V0.heap.size := Nat.le_trans hBW hsz0
 have hnob : ¬ Own2 mb cb b := fun e => by rcases e with e | e <;> omega
 have hbbl := lt_of_cell c0
 have hnbb : ¬ Own2 mb cb bb := fun e => hbb (hX _ e)
 have e1 : w'.heap[b]? = some (.cells #[.int .i64 0, .int .i64 0, .slice none 0 0] 46 (0, 0)) := hst.kp.same b _ ((hb.block b hbV).trans hbx) rfl hnob
 have hS : Stp B mb cb W w' := (hst0.trans (Stp.below hb hB0)).trans hst
 have hkx : KpX X V0 w' := (KpX.below hb).trans (hst.kp.mono hX)
 have hv' := hv.step hkx hgr.1 hgr.2
 have d0 := hkx.cell c0 hbb
 have d1 := hkx.cell c1 hbb
 have d2 := hkx.cell c2 hbb
 have hto : ∀ k, X k → Nb X V0 V k ∨ w'.heap.size ≤ k := fun k hk => .inl (.inl hk)
 refine ⟨fun p hp1 hp2 hpx => ?_, ?_⟩
 · have hpo : ¬ Own2 mb cb p := fun e => by rcases e with e | e <;> omega
   have hpw : w'.heap[p]? = some (.cells #[.int .i64 0, .int .i64 0, .slice none 0 0] 46 (0, 0)) := hst.kp.same p _ hpx rfl hpo
   have hh : ∀ (i : Nat) (x : Value) (w : World), OutIn (Nb X V0 V) B mb cb fv inp fuel w (.int .i64 k) (.int .i64 n) (.slice A l d) o1 → OutIn (Nb X V0 V) B mb cb fv inp fuel (w.setCell ⟨p, i, none⟩ x) (.int .i64 k) (.int .i64 n) (.slice A l d) o1 := fun i x w hw => hw.hid_ (.inr ⟨hp1, hp2⟩) (by omega) (by omega) (by omega) i x
   have hbp : b ≠ p := by omega
   have hbbp : p ≠ bb := by omega
   have hk3 : KpX (Nb X V0 V) w' (set3' w' p (.int .i64 k) (.int .i64 n) (.slice A l d)) := ((KpX.setCell _ 0 _ (.inr ⟨hp1, hp2⟩)).trans (KpX.setCell _ 1 _ (.inr ⟨hp1, hp2⟩))).trans (KpX.setCell _ 2 _ (.inr ⟨hp1, hp2⟩))
   have hvn : VIn (Nb X V0 V) o1.2.made.length o1.2.cells.length w' l1 b0 b1 b2 := by
    have := (hv.nb hb).step (hst.kp.mono (fun k hk => (.inl (hX k hk) : Nb X V0 V k))) hgr.1 hgr.2
    exact this
   refine ⟨⟨((hS.setNew (by omega) hBW 0 _).setNew (by omega) hBW 1 _).setNew (by omega) hBW 2 _, hgr, (hh 2 _ _ (hh 1 _ _ (hh 0 _ _ ho))).more (fun k hk => .inl (.inl hk)) hX, ?_, (hvn.step hk3 (Nat.le_refl _) (Nat.le_refl _)).more (fun k hk => .inl (.inl hk)), ?_, ?_⟩, ?_⟩
   · exact (heap_set_ne hbp _ _).trans ((heap_set_ne hbp _ _).trans ((heap_set_ne hbp _ _).trans e1))
   · exact ⟨(World.cell?_setCell_far _ _ (⟨bb, _, none⟩ : Addr) _ hbbp).trans ((World.cell?_setCell_far _ _ (⟨bb, _, none⟩ : Addr) _ hbbp).trans ((World.cell?_setCell_far _ _ (⟨bb, _, none⟩ : Addr) _ hbbp).trans d0)),
      (World.cell?_setCell_far _ _ (⟨bb, _, none⟩ : Addr) _ hbbp).trans ((World.cell?_setCell_far _ _ (⟨bb, _, none⟩ : Addr) _ hbbp).trans ((World.cell?_setCell_far _ _ (⟨bb, _, none⟩ : Addr) _ hbbp).trans d1)),
      (World.cell?_setCell_far _ _ (⟨bb, _, none⟩ : Addr) _ hbbp).trans ((World.cell?_setCell_far _ _ (⟨bb, _, none⟩ : Addr) _ hbbp).trans ((World.cell?_setCell_far _ _ (⟨bb, _, none⟩ : Addr) _ hbbp).trans d2))⟩
   · have := heap_set_self (heap_set_self (heap_set_self hpw 0 (.int .i64 k)) 1 (.int .i64 n)) 2 (.slice A l d)
     exact ⟨cell_block this rfl, cell_block this rfl, cell_block this rfl⟩
   · exact ⟨cell_block hpw rfl, cell_block hpw rfl, cell_block hpw rfl, fun i => by simp [World.frozen?, hpw]⟩
 · have hal := below_al1 w' (.cells #[.int .i64 k, .int .i64 n, .slice A l d] 46)
   have hnb := new1 w' (.cells #[.int .i64 k, .int .i64 n, .slice A l d] 46)
   exact ⟨hS.trans (Stp.below hal (by omega)), hgr, (ho.below hal).more (fun k hk => .inl (.inl hk)) hX, (hal.block b (by omega)).trans e1, hv'.step (KpX.below hal) (Nat.le_refl _) (Nat.le_refl _), ⟨cell_behind hal d0, cell_behind hal d1, cell_behind hal d2⟩, cell_block hnb rfl, cell_block hnb rfl, cell_block hnb rfl⟩
theorem OutIn.calm {a b c : Value} {o1 : FOut} (h : OutIn X B mb cb fv inp fuel W a b c o1) (hr : ∀ v, o1.1 ≠ .raised v) : ∃ s2 cut stk rai x0 x1 x2, RIn X B mb cb fv inp fuel s2 cut stk rai x0 x1 x2 W ∧ (!rai || cut || stk) = true := by
 obtain ⟨r, s'⟩ := o1
 cases r with
 | val v => exact ⟨_, _, _, _, _, _, _, h.1, rfl⟩
 | raised v => exact absurd rfl (hr v)
 | stuck => obtain ⟨md, h⟩ := h; exact ⟨{ s' with made := md }, _, _, _, _, _, _, h, rfl⟩
 | cut => exact ⟨_, _, _, _, _, _, _, h, rfl⟩
theorem ROut.eq_ {o' : FOut} {e : Ending} (h : o = o') (hr : ROut X B mb cb fv inp fuel s o' W e W') : ROut X B mb cb fv inp fuel s o W e W' := h ▸ hr
theorem zed_at {V0 w2 : World} (hbi : Below (V0.alloc (.cells #[.int .i64 0, .int .i64 0, .slice none 0 0] 46)).drew.heap.size (V0.alloc (.cells #[.int .i64 0, .int .i64 0, .slice none 0 0] 46)).drew w2) : V0.heap.size < w2.heap.size ∧ w2.heap[V0.heap.size]? = some (.cells #[.int .i64 0, .int .i64 0, .slice none 0 0] 46 (0, 0)) := by
 have h1 : V0.heap.size < (V0.alloc (.cells #[.int .i64 0, .int .i64 0, .slice none 0 0] 46)).drew.heap.size := by show V0.heap.size < (V0.alloc _).heap.size; simp
 exact ⟨Nat.lt_of_lt_of_le h1 hbi.size, (hbi.block _ h1).trans (new1 V0 _)⟩
def tryF (funs : List FFun) (rec : Anf → PEnv → FSt → FOut) (b : PV) (o1 : FOut) : FOut := match o1 with | (.raised v, s') => callF funs rec b v s' | o => o
theorem rrhs_try (hok : RBodyOk p B mb cb fv inp n) (hwf : ∀ g ∈ p.funs, WfA p.funs.length g.body ∧ ShortA g.body) (hfv : FunsV B W p fv) (hmd : MadeIn p.funs.length s) (hn : s.left ≤ n) (h : RGo X B mb cb fv inp fuel s W) (hX : ∀ k, X k → k < W.heap.size) {ats : List Atm} {Aa Ak Al : Option Addr} {ca lk ck lb cbl : Nat} {e : PEnv} {pv : Value} (he : EIn X s.made.length s.cells.length W e pv) (ha : AtomsIn B W Aa ats) (hs : ats.length ≤ 1000000) {vs : List PV} (hvs : atomsP e ats = some vs) (hl : 1 < vs.length) :
 Calls Tryz.prog 50 #[.pointer (some ⟨cb, 0, none⟩), .agg #[.int .i64 2, .int .i64 16, .slice Aa ats.length ca, .slice Ak lk ck, .slice Al lb cbl], pv] W (ROut X B mb cb fv inp fuel s (tryF p.funs (evF p.funs inp n) vs[1] (callF p.funs (evF p.funs inp n) vs[0] (.int 0) s)) W) := by
 generalize hVV : (W.alloc (.cells #[.int .i64 2, .int .i64 16, .slice Aa ats.length ca, .slice Ak lk ck, .slice Al lb cbl] 60)).alloc (.cells #[.int .i64 0, .int .i64 0, .slice none 0 0] 46) = VV
 obtain ⟨hA, r2⟩ := frameR2 (k := 2) (nn := 16) h hX he ha hs hvs VV hVV
 have HA := Lib.hid hA
 obtain ⟨pa, hpa⟩ : ∃ pa, vs[0] = pa := ⟨_, rfl⟩
 obtain ⟨pb, hpb⟩ : ∃ pb, vs[1] = pb := ⟨_, rfl⟩
 rw [hpa, hpb]
 obtain ⟨o1, ho1⟩ : ∃ x1, callF p.funs (evF p.funs inp n) pa (.int 0) s = x1 := ⟨_, rfl⟩
 rw [ho1]
 have HH := Lib.hid (And.intro h (And.intro hX (And.intro hok (And.intro hwf (And.intro hfv (And.intro hmd (And.intro hn (And.intro ho1 (And.intro hpa hpb)))))))))
 obtain ⟨pq, rfl⟩ := he.shape
 have HLL := Lib.hid (rfl : vs.length = vs.length)
 generalize hal : ats.length = al at *
 clear h hX he ha hs hvs hok hwf hfv hmd hn hA hal ho1 hpa hpb
 go_enter Tryz.func50, Tryz.ntmps50
 go_wp2_with (first
  | (go_at_call 52; refine HA.out.mono ?_; rintro en V0 ⟨A, c, rfl, haf⟩; have q0 := haf.q0; have q1 := haf.q1; have q5 := lt_of_cell q0; have HAF := Lib.hid haf; clear haf))
 clear HA r2 hVV
 obtain ⟨h, hX, hok, hwf, hfv, hmd, hn, ho1, hpa, hpb⟩ := HH.out
 obtain ⟨hb0, hsz, hg0, hX0, hE0, hv0, hcap, -, -, -, -, hbx⟩ := HAF.out
 have hxx := hv0
 obtain ⟨bb, oo, a0, a1, a2, rfl, c0, c1, c2, hsub⟩ := hv0.at_ (show 0 < vs.length by omega)
 obtain ⟨bb', oo', b0, b1, b2, he, d0, d1, d2, hsub2⟩ := hv0.at_ hl
 simp only [Option.some.injEq, Addr.mk.injEq, and_true] at he
 obtain ⟨rfl, rfl⟩ := he
 simp only [Nat.zero_mul, Nat.add_zero, Nat.one_mul] at c0 c1 c2 d0 d1 d2
 rw [hpa] at hsub
 rw [hpb] at hsub2
 have hbb : ¬ Bx X (W.heap.size + 1) bb := by
  rcases hxx with h0 | ⟨b', o', G0, G1, G2, hA', hx, -⟩
  · rw [h0] at hl; simp at hl
  · simp only [Option.some.injEq, Addr.mk.injEq, and_true] at hA'
    rw [hA'.1]; exact hx
 have hXO : ∀ k, Own2 mb cb k → Bx X (W.heap.size + 1) k := fun k hk => .inl (h.hX k hk)
 have hle := (callF_le (funs := p.funs) (evF_le p.funs inp n) pa (.int 0) s).left
 have hmd1 := callF_in (evF_in inp (fun g hg => (hwf g hg).1) n) (fun g hg => (hwf g hg).1) pa (.int 0) s hmd
 rw [ho1] at hle hmd1
 have HT := Lib.hid (fun (V : World) (hb : Below V0.heap.size V0 V) => (show Calls _ _ _ V _ from ho1 ▸ (rcall_any hok hwf (hg0.nb hb) (fun k hk => by
  have := hb.size
  rcases hk with hk | hk
  · have := hX0 k hk; omega
  · exact hk.2) (hfv.kept ((hb0.mono h.hBW).trans (hb.mono (Nat.le_trans h.hBW hb0.size)))) hmd (hsub.nb hb) (.int 0) hn)))
 have HM := Lib.hid (fun (V w' : World) (k n : Int) (A : Option Addr) (l' d : Nat) (hb : Below V0.heap.size V0 V) (hst : Stp B mb cb V w') (hgr : s.made.length ≤ o1.2.made.length ∧ s.cells.length ≤ o1.2.cells.length) (ho : OutIn (Nb (Bx X (W.heap.size + 1)) V0 V) B mb cb fv inp fuel w' (.int .i64 k) (.int .i64 n) (.slice A l' d) o1) =>
  try_mid (e := .outgrown) h.hBW (own_lt h) (Stp.below hb0 h.hBW) hb (Nat.le_succ _) hsz hbx hXO hsub2 d0 d1 d2 hbb hst hgr ho)
 obtain ⟨k1, n1, A1, l1, d1', rfl, rfl, rfl⟩ := hsub.shape
 obtain ⟨k2, n2, A2, l2, d2', rfl, rfl, rfl⟩ := hsub2.shape
 have hkl0 : 0 < vs.length := by omega
 have hll : (0 : Int) < (vs.length : Int) := by omega
 have hll1 : (1 : Int) < (vs.length : Int) := by omega
 have HXX := Lib.hid (And.intro h (And.intro hX (And.intro hok (And.intro hn (And.intro hle (And.intro hXO (And.intro hX0 (And.intro hb0 (And.intro hwf (And.intro hfv hmd1))))))))))
 have HS := Lib.hid (fun (V : World) (hb : Below V0.heap.size V0 V) => (show V.cell? ⟨bb, oo, none⟩ = some (.int .i64 k1) ∧ V.cell? ⟨bb, oo + 1, none⟩ = some (.int .i64 n1) ∧ V.cell? ⟨bb, oo + 2, none⟩ = some (.slice A1 l1 d1') from ⟨cell_behind hb c0, cell_behind hb c1, cell_behind hb c2⟩))
 have HK := Lib.hid (fun (V w' : World) (hst : Stp B mb cb V w') (hq : V.cell? ⟨bb, oo, none⟩ = some (.int .i64 k1) ∧ V.cell? ⟨bb, oo + 1, none⟩ = some (.int .i64 n1) ∧ V.cell? ⟨bb, oo + 2, none⟩ = some (.slice A1 l1 d1')) => (show w'.cell? ⟨bb, oo, none⟩ = some (.int .i64 k1) ∧ w'.cell? ⟨bb, oo + 1, none⟩ = some (.int .i64 n1) ∧ w'.cell? ⟨bb, oo + 2, none⟩ = some (.slice A1 l1 d1') from ⟨(hst.kp.mono hXO).cell hq.1 hbb, (hst.kp.mono hXO).cell hq.2.1 hbb, (hst.kp.mono hXO).cell hq.2.2 hbb⟩))
 have HBB := Lib.hid hbb
 have hbbV := lt_of_cell c0
 have HF := Lib.hid (fun (V : World) (p i : Nat) (x : Value) (hp : V0.heap.size ≤ p) (hq : V.cell? ⟨bb, oo, none⟩ = some (.int .i64 k1) ∧ V.cell? ⟨bb, oo + 1, none⟩ = some (.int .i64 n1) ∧ V.cell? ⟨bb, oo + 2, none⟩ = some (.slice A1 l1 d1')) => (show (V.setCell ⟨p, i, none⟩ x).cell? ⟨bb, oo, none⟩ = some (.int .i64 k1) ∧ (V.setCell ⟨p, i, none⟩ x).cell? ⟨bb, oo + 1, none⟩ = some (.int .i64 n1) ∧ (V.setCell ⟨p, i, none⟩ x).cell? ⟨bb, oo + 2, none⟩ = some (.slice A1 l1 d1') from ⟨(World.cell?_setCell_far V _ (⟨bb, _, none⟩ : Addr) _ (show p ≠ bb by omega)).trans hq.1, (World.cell?_setCell_far V _ (⟨bb, _, none⟩ : Addr) _ (show p ≠ bb by omega)).trans hq.2.1, (World.cell?_setCell_far V _ (⟨bb, _, none⟩ : Addr) _ (show p ≠ bb by omega)).trans hq.2.2⟩))
 have HA := Lib.hid (fun (V : World) (o : Obj) (hq : V.cell? ⟨bb, oo, none⟩ = some (.int .i64 k1) ∧ V.cell? ⟨bb, oo + 1, none⟩ = some (.int .i64 n1) ∧ V.cell? ⟨bb, oo + 2, none⟩ = some (.slice A1 l1 d1')) => (show (V.alloc o).cell? ⟨bb, oo, none⟩ = some (.int .i64 k1) ∧ (V.alloc o).cell? ⟨bb, oo + 1, none⟩ = some (.int .i64 n1) ∧ (V.alloc o).cell? ⟨bb, oo + 2, none⟩ = some (.slice A1 l1 d1') from ⟨cell_behind (below_al1 V o) hq.1, cell_behind (below_al1 V o) hq.2.1, cell_behind (below_al1 V o) hq.2.2⟩))
 have HZ := Lib.hid (Nat.le_refl V0.heap.size)
 have HB0 := Lib.hid (show Below V0.heap.size V0 V0.drew from (Below.refl _ _).drew)
 have HBz := Lib.hid (show Below V0.heap.size V0 (V0.alloc (.cells #[.int .i64 0, .int .i64 0, .slice none 0 0] 46)).drew from (below_al1 _ _).drew)
 clear h hX hb0 hbx hg0 hsz hv0 hxx hsub hsub2 hok hwf hfv hmd hmd1 hn hbb hX0 hXO hle c0 c1 c2 d0 d1 d2 hbbV ho1 hpa hpb hE0 hcap HAF HH HLL
 clear hl
 generalize vs.length = kl at *
 go_region_held2 (fun V => V.cell? ⟨bb, oo, none⟩ = some (.int .i64 k1) ∧ V.cell? ⟨bb, oo + 1, none⟩ = some (.int .i64 n1) ∧ V.cell? ⟨bb, oo + 2, none⟩ = some (.slice A1 l1 d1'))
  (with_reducible (first | exact HS.out _ HB0.out | exact HS.out _ HBz.out | exact HSW.out | exact HA.out _ _ HSW.out | exact HF.out _ _ _ _ HPL.out (HF.out _ _ _ _ HPL.out (HF.out _ _ _ _ HPL.out HSW.out)) | exact HF.out _ _ _ _ HPL.out HSW.out | exact HS.out _ HBI.out | exact HS.out _ (HBI.out.alloc HBI.out.size _)))
  ((first
   | (go_at_call 73; refine (vint_any _ V0.drew).mono ?_; rintro e w2 ⟨rfl, hbi⟩; have HBI := Lib.hid (show Below V0.heap.size V0 w2 from HB0.out.trans (hbi.mono HB0.out.size)); clear hbi)
   | (go_at_call 73; refine (vint_any _ (V0.alloc (.cells #[.int .i64 0, .int .i64 0, .slice none 0 0] 46)).drew).mono ?_; rintro e w2 ⟨rfl, hbi⟩; have HBI := Lib.hid (show Below V0.heap.size V0 w2 from HBz.out.trans (hbi.mono HBz.out.size)); have HMARK := Lib.hid True.intro; have HPZ := Lib.hid (show V0.heap.size < w2.heap.size ∧ w2.heap[V0.heap.size]? = some (.cells #[.int .i64 0, .int .i64 0, .slice none 0 0] 46 (0, 0)) from zed_at hbi); clear hbi)
   | (go_at_call 70; clear HMARK; refine (HT.out w2 HBI.out).mono ?_; rintro e w' ⟨hst, hgr, k0, m0, A0, l0, d0, rfl, ho⟩; obtain ⟨hmid, z0, z1, z2, zf⟩ := (HM.out w2 w' k0 m0 A0 l0 d0 HBI.out hst hgr ho).1 V0.heap.size (Nat.le_refl _) HPZ.out.1 HPZ.out.2; have HMID := Lib.hid hmid; have HSW := Lib.hid (HK.out w2 w' hst (HS.out w2 HBI.out)); have HPL := Lib.hid (Nat.le_refl V0.heap.size); have HM1 := Lib.hid True.intro; clear hst hgr ho hmid)
   | (go_at_call 70; refine (HT.out (w2.alloc (.cells #[.int .i64 0, .int .i64 0, .slice none 0 0] 46)) (HBI.out.alloc HBI.out.size _)).mono ?_; rintro e w' ⟨hst, hgr, k0, m0, A0, l0, d0, rfl, ho⟩; obtain ⟨hmid, z0, z1, z2, zf⟩ := (HM.out _ w' k0 m0 A0 l0 d0 (HBI.out.alloc HBI.out.size (.cells #[.int .i64 0, .int .i64 0, .slice none 0 0] 46)) hst hgr ho).1 w2.heap.size HBI.out.size (by simp) (new1 w2 _); have HMID := Lib.hid hmid; have HSW := Lib.hid (HK.out _ w' hst (HS.out _ (HBI.out.alloc HBI.out.size _))); have HPL := Lib.hid HBI.out.size; have HM2 := Lib.hid True.intro; clear hst hgr ho hmid)
   | (go_at_call 70; refine (HT.out w2 HBI.out).mono ?_; rintro e w' ⟨hst, hgr, k0, m0, A0, l0, d0, rfl, ho⟩; have HMID := Lib.hid (HM.out w2 w' k0 m0 A0 l0 d0 HBI.out hst hgr ho).2; have HSW := Lib.hid (HK.out w2 w' hst (HS.out w2 HBI.out)); have HM3 := Lib.hid True.intro; clear hst hgr ho)))
 all_goals
  first
   | clear HM1; simp only [set3'] at HMID; generalize ((w'.setCell ⟨V0.heap.size, 0, none⟩ (.int .i64 k0)).setCell ⟨V0.heap.size, 1, none⟩ (.int .i64 m0)).setCell ⟨V0.heap.size, 2, none⟩ (.slice A0 l0 d0) = w5 at *
   | clear HM2; simp only [set3'] at HMID; generalize ((w'.setCell ⟨w2.heap.size, 0, none⟩ (.int .i64 k0)).setCell ⟨w2.heap.size, 1, none⟩ (.int .i64 m0)).setCell ⟨w2.heap.size, 2, none⟩ (.slice A0 l0 d0) = w5 at *
   | clear HM3; generalize w'.alloc (.cells #[.int .i64 k0, .int .i64 m0, .slice A0 l0 d0] 46) = w5 at *
  obtain ⟨mst, mgr, mout, mbox, mval, ⟨c0, c1, c2⟩, ⟨p0, p1, p2⟩⟩ := HMID.out
  obtain ⟨h, hX, hok, hn, hle, hXO, hX0, hb0, hwf, hfv, hmd1⟩ := HXX.out
  have hBW := h.hBW
  have hlt := own_lt h
  have hb5 : W.heap.size + 1 < w5.heap.size := (Array.getElem?_eq_some_iff.1 mbox).1
  have hno : ¬ Own2 mb cb (W.heap.size + 1) := fun e => by rcases e with e | e <;> omega
  by_cases hr : ∃ v s', o1 = (.raised v, s')
  · obtain ⟨v, s', rfl⟩ := hr
    obtain ⟨y0, y1, y2, hri, hvv, -⟩ := mout
    have mc := hri.cells.2.2.2.2.2.2.2.2.2.2
    have hX5 : ∀ k, Bx X (W.heap.size + 1) k → k < w5.heap.size := fun k hk => by
     rcases hk with hk | hk
     · have := hX k hk; have := mst.kp.size; omega
     · omega
    have HCA := Lib.hid (rcaught_yes hri hvv)
    have HTT := Lib.hid (fun (w6 : World) (k3 m3 : Int) (A3 : Option Addr) (l3 d3 : Nat) (hst6 : Stp B mb cb w5 w6) (hg6 : RGo (Bx X (W.heap.size + 1)) B mb cb fv inp fuel s' w6) (hv6 : VIn (Bx X (W.heap.size + 1)) s'.made.length s'.cells.length w6 v (.int .i64 k3) (.int .i64 m3) (.slice A3 l3 d3)) =>
     (show Calls Tryz.prog 70 _ (w6.alloc (.cells #[.int .i64 k3, .int .i64 m3, .slice A3 l3 d3] 46)).drew _ from by
      have hal := (below_al1 w6 (.cells #[.int .i64 k3, .int .i64 m3, .slice A3 l3 d3] 46)).drew
      have hsz6 := hst6.kp.size
      have hkk := KpX.below (X := Bx X (W.heap.size + 1)) hal
      refine (rcall_any hok hwf (hg6.below hal) (fun k hk => by have := hX5 k hk; have := hal.size; omega) (hfv.kept ((mst.bel.trans hst6.bel).trans (hal.mono hg6.hBW))) hmd1 (((mval.step (hst6.kp.mono hXO) (Nat.le_refl _) (Nat.le_refl _))).step hkk (Nat.le_refl _) (Nat.le_refl _)) (hv6.step hkk (Nat.le_refl _) (Nat.le_refl _)) (Nat.le_trans hle hn)).mono fun e w' hp => ROut.box (X := X) (W := W) (s := s) (W1 := (w6.alloc (.cells #[.int .i64 k3, .int .i64 m3, .slice A3 l3 d3] 46)).drew) (b := W.heap.size + 1) h.hX hBW hlt (by omega) (((hal.block _ (by omega)).trans (hst6.kp.same _ _ mbox rfl hno))) ((mst.trans hst6).trans (Stp.below hal hg6.hBW)) mgr hp))
    have HCC := Lib.hid (fun (w6 : World) (hst6 : Stp B mb cb w5 w6) (hg6 : RGo (Bx X (W.heap.size + 1)) B mb cb fv inp fuel s' w6) => (show w6.cell? ⟨bb, oo + 3, none⟩ = some (.int .i64 k2) ∧ w6.cell? ⟨bb, oo + 3 + 1, none⟩ = some (.int .i64 n2) ∧ w6.cell? ⟨bb, oo + 3 + 2, none⟩ = some (.slice A2 l2 d2') ∧ bb < w6.heap.size from
     ⟨(hst6.kp.mono hXO).cell c0 HBB.out, (hst6.kp.mono hXO).cell c1 HBB.out, (hst6.kp.mono hXO).cell c2 HBB.out, Nat.lt_of_lt_of_le (lt_of_cell c0) hst6.kp.size⟩))
    have HGG : tryF p.funs (evF p.funs inp n) pb (.raised v, s') = callF p.funs (evF p.funs inp n) pb v s' := rfl
    generalize callF p.funs (evF p.funs inp n) pb v s' = o2 at *
    have HGH := Lib.hid HGG
    clear mst mgr mbox mval c0 c1 c2 p0 p1 p2 h hX hok hn hle hXO hX0 hb0 hBW hlt hb5 hno hri hvv hX5 hwf hfv hmd1 HMID HT HM HXX HS HK HF HA HB0 HBz HSW HBI HGG
    go_wp2_with (go_at_call 74; refine HCA.out.mono ?_; rintro e w6 ⟨k3, m3, A3, l3, d3, rfl, hst6, hg6, hv6⟩; have HTL := Lib.hid (HTT.out w6 k3 m3 A3 l3 d3 hst6 hg6 hv6); obtain ⟨i0, i1, i2, i3⟩ := HCC.out w6 hst6 hg6; clear hst6 hg6 hv6)
    go_region_law ((first
     | (go_simp; go_at_call 70; refine HTL.out.mono ?_; rintro e w8 ⟨k, n, A, l, d, rfl, ⟨f0, f1, f2, ff⟩, hR⟩; have HR := Lib.hid hR; clear hR)))
    all_goals
     go_wp2_with fail
     exact bodyPost_ret (v := .agg #[.int .i64 k, .int .i64 n, .slice A l d]) (by simp [results, Tryz.results50, go_sem, f0, f1, f2]) rfl (ROut.eq_ HGH.out HR.out)
  · have hnr : ∀ v, o1.1 ≠ .raised v := fun v e => hr ⟨v, o1.2, by rw [← e]⟩
    obtain ⟨s2, cut, stk, rai, x0, x1, x2, hri, hfl⟩ := mout.calm hnr
    have mc := hri.cells.2.2.2.2.2.2.2.2.2.2
    have HCN := Lib.hid (rcaught_no hri hfl)
    have HGG : tryF p.funs (evF p.funs inp n) pb o1 = o1 := by
     obtain ⟨r, s'⟩ := o1
     cases r with
     | raised v => exact absurd rfl (hnr v)
     | _ => rfl
    have HGH := Lib.hid HGG
    have HP := Lib.hid (fun (V : World) (hb : Below w5.heap.size w5 V) => ROut.box' (X := X) (fuel := fuel) (s1 := o1.2) (s := s) (o := o1) (W := W) (W1 := w5) (W2 := V) (b := W.heap.size + 1) h.hX hBW hlt (by omega) mbox mst mgr
     (show ROut (Bx X (W.heap.size + 1)) B mb cb fv inp fuel o1.2 o1 w5 (.returned (.agg #[.int .i64 k0, .int .i64 m0, .slice A0 l0 d0])) V from
      ⟨Stp.below hb hri.hBW, ⟨Nat.le_refl _, Nat.le_refl _⟩, _, _, _, _, _, rfl, mout.below hb⟩))
    clear mst mgr mout mbox mval c0 c1 c2 h hX hok hn hle hXO hX0 hb0 hBW hlt hb5 hno hri hfl hnr hr hwf hfv hmd1 HMID HT HM HXX HS HK HF HA HB0 HBz HSW HBI HGG
    go_wp2_with (go_at_call 74; refine HCN.out.mono ?_; rintro e w6 ⟨rfl, hb6⟩; have j0 := cell_behind hb6 p0; have j1 := cell_behind hb6 p1; have j2 := cell_behind hb6 p2; have j3 := lt_of_cell j0; obtain ⟨⟨f0, f1, f2, ff⟩, hR⟩ := HP.out _ (hb6.alloc hb6.size (.cells #[.int .i64 0, .int .i64 0, .slice none 0 0] 46)); have HR := Lib.hid hR; clear hR)
    exact bodyPost_ret (v := .agg #[.int .i64 k0, .int .i64 m0, .slice A0 l0 d0]) (by simp [results, Tryz.results50, go_sem, f0, f1, f2]) rfl (ROut.eq_ HGH.out HR.out)
end
end Go.Proofs.YtnobggabjpcbfaaGreat
namespace Go.Proofs.YtnobggabjpcbfaaGreat
open Go.RowKit
section
variable {X Y : Nat → Prop} {B mb cb n : Nat} {p : FlatP} {fv : Value} {inp : List Int} {fuel : FL} {s s1 : FSt} {W W' W1 W2 V0 w : World} {o : FOut}
theorem rrhs_any (hok : RBodyOk p B mb cb fv inp n) (hwf : ∀ g ∈ p.funs, WfA p.funs.length g.body ∧ ShortA g.body) (hfv : FunsV B W p fv) (hmd : MadeIn p.funs.length s) (hn : s.left < n) (h : RGo X B mb cb fv inp fuel s W) (hlim : fuel.lim < fuel.f) (hX : ∀ k, X k → k < W.heap.size) {x k nn : Int} {ats : List Atm} {ks : List Int} {bl : List Anf} {Aa Ak Al : Option Addr} {ca ck cbl : Nat} {e : PEnv} {pv : Value} (he : EIn X s.made.length s.cells.length W e pv) (hb : BindOk p.funs.length x k nn ats ks bl.length) (hk10 : k ≠ 10)
 (ha : AtomsIn B W Aa ats) (hs : ats.length ≤ 1000000) (hks : IntsIn B W Ak ks) (hbl : BlocksIn B W Al bl) (hwb : ∀ c ∈ bl, WfA p.funs.length c ∧ ShortA c) :
 Calls Tryz.prog 50 #[.pointer (some ⟨cb, 0, none⟩), .agg #[.int .i64 k, .int .i64 nn, .slice Aa ats.length ca, .slice Ak ks.length ck, .slice Al bl.length cbl], pv] W (ROut X B mb cb fv inp fuel.up s (sideF p inp n k nn ats ks bl e s) W) := by
 have hu : RGo X B mb cb fv inp fuel.up s W := h.lim_ (l := fuel.lim + 1) (by omega) (by omega)
 rcases hvs : atomsP e ats with _ | vs
 · rw [sideF_none hvs]
   exact rrhs_no hu hX he ha hs hvs
 have hl := atomsP_len _ _ hvs
 rw [sideF_some hvs]
 rcases hb.kind with rfl | rfl | rfl | rfl | rfl | rfl | rfl | rfl
 · have h1 := hb.one (.inl rfl)
   have h2 : 0 < vs.length := by omega
   have := rrhs_atom (nn := nn) (Ak := Ak) (Al := Al) (ca := ca) (lk := ks.length) (ck := ck) (lb := bl.length) (cbl := cbl) hu hX he ha hs hvs h2
   have e1 : rhsF p.funs inp (evF p.funs inp n) 1 nn vs ks bl e s = (.val vs[0], s) := by simp [rhsF, h2]
   rw [e1]; exact this
 · have h1 := hb.primL
   obtain ⟨p1, p2⟩ := hb.prim rfl
   have e1 : rhsF p.funs inp (evF p.funs inp n) 2 nn vs ks bl e s = primF p.funs inp (evF p.funs inp n) nn vs s := by simp [rhsF]
   rw [e1]
   by_cases h16 : nn = 16
   · subst h16
     have h2 : 1 < vs.length := by rw [hl, h1]; decide
     have h3 : 0 < vs.length := by omega
     have e2 : primF p.funs inp (evF p.funs inp n) 16 vs s = tryF p.funs (evF p.funs inp n) vs[1] (callF p.funs (evF p.funs inp n) vs[0] (.int 0) s) := by
      simp [primF, h2, h3, tryF]
      rfl
     rw [e2]
     exact rrhs_try hok hwf hfv hmd (by omega) hu hX he ha hs hvs h2
   · exact rrhs_prim h hlim hX he ha hs hvs p1 (by omega) (by rw [hl, h1]) (evF p.funs inp n)
 · have e1 : rhsF p.funs inp (evF p.funs inp n) 3 nn vs ks bl e s = (.val (.blk nn vs), s) := by simp [rhsF]
   rw [e1]
   exact rrhs_block hu hX he ha hs hvs
 · have h1 := hb.one (.inr (.inl rfl))
   have h2 : 0 < vs.length := by omega
   have e1 : rhsF p.funs inp (evF p.funs inp n) 4 nn vs ks bl e s = fieldF vs[0] nn s := by simp [rhsF, h2]
   rw [e1]
   exact rrhs_field h hlim hX he ha hs hvs hb.field.1 (by omega)
 · have h1 := hb.app
   have h2 : 1 < vs.length := by omega
   have h3 : 0 < vs.length := by omega
   have e1 : rhsF p.funs inp (evF p.funs inp n) 6 nn vs ks bl e s = callF p.funs (evF p.funs inp n) vs[0] vs[1] s := by simp [rhsF, h2, h3]
   rw [e1]
   exact rrhs_app hok hwf hfv hmd (by omega) h hlim hX he ha hs hvs (by omega)
 · have h1 := hb.one (.inr (.inr rfl))
   have h2 : 0 < vs.length := by omega
   rcases hkey : keyOf vs[0] with _ | key
   · have e1 : rhsF p.funs inp (evF p.funs inp n) 8 nn vs ks bl e s = (.stuck, s) := by simp [rhsF, h2, hkey]
     rw [e1]
     exact rrhs_nokey h hlim hX he ha hs hvs (by omega) hkey
   · have e1 : rhsF p.funs inp (evF p.funs inp n) 8 nn vs ks bl e s = evF p.funs inp n (bl[whichAt ks key]?.getD default) e s := by simp [rhsF, h2, hkey]
     rw [e1]
     exact rrhs_switch hok hfv hmd hn h hlim hX he ha hs hvs (by omega) hkey hks rfl hbl rfl hb.switch hwb
 · have e1 : rhsF p.funs inp (evF p.funs inp n) 9 nn vs ks bl e s = (.val (.fn s.made.length), { s with made := s.made ++ [(nn, vs)] }) := by simp [rhsF]
   rw [e1]
   exact rrhs_close h hlim hX he ha hs hvs
 · exact absurd rfl hk10
end
end Go.Proofs.YtnobggabjpcbfaaGreat
