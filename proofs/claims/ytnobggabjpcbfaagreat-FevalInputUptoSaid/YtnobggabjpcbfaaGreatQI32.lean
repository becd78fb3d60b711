/-
 1 texts of this seat in one: FV39.
-/
import Derived.Test.YtnobggabjpcbfaaGreatQI31
set_option maxRecDepth 100000
set_option maxHeartbeats 16000000
set_option linter.unusedVariables false
set_option linter.unusedSimpArgs false
namespace Go.Proofs.YtnobggabjpcbfaaGreat
open Go.RowKit
section
variable {X Y : Nat → Prop} {B mb cb n nf nc i m : Nat} {p : FlatP} {fv : Value} {inp : List Int} {fuel : FL} {s s1 s2 : FSt} {W W' W1 W2 V0 V w w' wr : World} {o : FOut} {t : Anf} {e1 : PEnv} {ev : Value} {A0 : Option Addr} {c0 : Nat} {en : Ending}
structure TFr (X : Nat → Prop) (p : FlatP) (B mb cb : Nat) (fv : Value) (inp : List Int) (fuel : FL) (s : FSt) (n : Nat) (W V0 : World) (t : Anf) (A0 : Option Addr) (c0 : Nat) : Prop where
 h : RGo X B mb cb fv inp fuel s W
 hX : ∀ k, X k → k < W.heap.size
 fv_ : FunsV B W p fv
 wf : ∀ g ∈ p.funs, WfA p.funs.length g.body ∧ ShortA g.body
 hok : ∀ m, m < n → RBodyOk p B mb cb fv inp m
 wt : WfA p.funs.length t
 sh : ShortA t
 b0 : Below W.heap.size W V0
 bx0 : V0.heap[W.heap.size]? = some (.cells #[.slice A0 t.len c0, .bool t.last.v, .int .i64 t.last.n] 27 (0, 0))
 bx1 : V0.heap[W.heap.size + 1]? = some (.cells #[.int .i64 0, .int .i64 0, .slice none 0 0] 46 (0, 0))
structure TIn (X : Nat → Prop) (p : FlatP) (B mb cb : Nat) (fv : Value) (inp : List Int) (fuel : FL) (s : FSt) (n : Nat) (W V0 : World) (t : Anf) (o : FOut) (i : Nat) (wr : World) (ev : Value) (m : Nat) (s1 : FSt) (e1 : PEnv) : Prop where
 go_ : RGo (Bx X (W.heap.size + 1)) B mb cb fv inp fuel s1 wr
 st : Stp B mb cb V0 wr
 gr : s.made.length ≤ s1.made.length ∧ s.cells.length ≤ s1.cells.length
 mad : MadeIn p.funs.length s1
 env : EIn (Bx X (W.heap.size + 1)) s1.made.length s1.cells.length wr e1 ev
 out : o = evF p.funs inp m (t.tail i) e1 s1
 lt : s1.left < m
 le : m ≤ n
def TEnd (X : Nat → Prop) (B mb cb : Nat) (fv : Value) (inp : List Int) (fuel : FL) (s : FSt) (o : FOut) (W : World) (en : Ending) (w' : World) : Prop :=
 ∃ k n A l d, en = .returned (.agg #[.int .i64 k, .int .i64 n, .slice A l d]) ∧ (w'.cell? ⟨W.heap.size + 1, 0, none⟩ = some (.int .i64 0) ∧ w'.cell? ⟨W.heap.size + 1, 1, none⟩ = some (.int .i64 0) ∧ w'.cell? ⟨W.heap.size + 1, 2, none⟩ = some (.slice none 0 0) ∧ (∀ i, w'.frozen? ⟨W.heap.size + 1, i, none⟩ = false)) ∧
  ROut X B mb cb fv inp fuel s o W (.returned (.agg #[.int .i64 k, .int .i64 n, .slice A l d])) (((w'.setCell ⟨W.heap.size + 1, 0, none⟩ (.int .i64 k)).setCell ⟨W.heap.size + 1, 1, none⟩ (.int .i64 n)).setCell ⟨W.heap.size + 1, 2, none⟩ (.slice A l d))
def TVal (X : Nat → Prop) (B mb cb : Nat) (fv : Value) (inp : List Int) (fuel : FL) (s : FSt) (o : FOut) (W : World) (k n : Int) (A : Option Addr) (l d : Nat) (w' : World) : Prop :=
 (w'.cell? ⟨W.heap.size + 1, 0, none⟩ = some (.int .i64 0) ∧ w'.cell? ⟨W.heap.size + 1, 1, none⟩ = some (.int .i64 0) ∧ w'.cell? ⟨W.heap.size + 1, 2, none⟩ = some (.slice none 0 0) ∧ (∀ i, w'.frozen? ⟨W.heap.size + 1, i, none⟩ = false)) ∧
  ROut X B mb cb fv inp fuel s o W (.returned (.agg #[.int .i64 k, .int .i64 n, .slice A l d])) (((w'.setCell ⟨W.heap.size + 1, 0, none⟩ (.int .i64 k)).setCell ⟨W.heap.size + 1, 1, none⟩ (.int .i64 n)).setCell ⟨W.heap.size + 1, 2, none⟩ (.slice A l d))
theorem TFr.no (f : TFr X p B mb cb fv inp fuel s n W V0 t A0 c0) {k : Nat} (hk : W.heap.size ≤ k) : ¬ Own2 mb cb k := fun e => by
 have := own_lt f.h
 rcases e with e | e <;> omega
theorem TFr.sz (f : TFr X p B mb cb fv inp fuel s n W V0 t A0 c0) : W.heap.size + 1 < V0.heap.size := (Array.getElem?_eq_some_iff.1 f.bx1).1
theorem TFr.end_ (f : TFr X p B mb cb fv inp fuel s n W V0 t A0 c0) (hst : Stp B mb cb V0 V) (hgr : s.made.length ≤ s2.made.length ∧ s.cells.length ≤ s2.cells.length) (hp : ROut (Bx X (W.heap.size + 1)) B mb cb fv inp fuel s2 o V en w') : TEnd X B mb cb fv inp fuel s o W en w' :=
 ROut.box (X := X) (W := W) (b := W.heap.size + 1) f.h.hX f.h.hBW (own_lt f.h) (Nat.le_succ _) (hst.kp.same _ _ f.bx1 rfl (f.no (Nat.le_succ _))) ((Stp.below f.b0 f.h.hBW).trans hst) hgr hp
theorem TFr.val_ (f : TFr X p B mb cb fv inp fuel s n W V0 t A0 c0) (hst : Stp B mb cb V0 V) (hgr : s.made.length ≤ s2.made.length ∧ s.cells.length ≤ s2.cells.length) {k n : Int} {A : Option Addr} {l d : Nat} (hp : ROut (Bx X (W.heap.size + 1)) B mb cb fv inp fuel s2 o V (.returned (.agg #[.int .i64 k, .int .i64 n, .slice A l d])) w') : TVal X B mb cb fv inp fuel s o W k n A l d w' :=
 ROut.box' (X := X) (W := W) (b := W.heap.size + 1) f.h.hX f.h.hBW (own_lt f.h) (Nat.le_succ _) (hst.kp.same _ _ f.bx1 rfl (f.no (Nat.le_succ _))) ((Stp.below f.b0 f.h.hBW).trans hst) hgr hp
theorem TFr.cells (f : TFr X p B mb cb fv inp fuel s n W V0 t A0 c0) (hst : Stp B mb cb V0 V) : V.cell? ⟨W.heap.size, 0, none⟩ = some (.slice A0 t.len c0) ∧ V.cell? ⟨W.heap.size, 1, none⟩ = some (.bool t.last.v) ∧ V.cell? ⟨W.heap.size, 2, none⟩ = some (.int .i64 t.last.n) ∧ W.heap.size + 1 < V.heap.size := by
 have hb := hst.kp.same _ _ f.bx0 rfl (f.no (Nat.le_refl _))
 have := f.sz
 have := hst.kp.size
 exact ⟨cell_block hb rfl, cell_block hb rfl, cell_block hb rfl, by omega⟩
theorem TFr.belB (f : TFr X p B mb cb fv inp fuel s n W V0 t A0 c0) (hst : Stp B mb cb V0 V) : Below B W V := (f.b0.mono f.h.hBW).trans hst.bel
theorem TFr.hXV (f : TFr X p B mb cb fv inp fuel s n W V0 t A0 c0) (hst : Stp B mb cb V0 V) : ∀ k, Bx X (W.heap.size + 1) k → k < V.heap.size := fun k hk => by
 have h1 := f.sz
 have h2 := hst.kp.size
 rcases hk with hk | hk
 · have := f.hX k hk; omega
 · omega
structure TBind (p : FlatP) (B : Nat) (t : Anf) (i : Nat) (b oo : Nat) (V : World) (x k nn : Int) (ats : List Atm) (ks : List Int) (bl : List Anf) (Aa : Option Addr) (ca : Nat) (Ak : Option Addr) (ck : Nat) (Al : Option Addr) (cl : Nat) : Prop where
 at_ : t.tail i = .bind x k nn ats ks bl (t.tail (i + 1))
 lt : b < B
 c0 : V.cell? ⟨b, oo + i * 6, none⟩ = some (.int .i64 x)
 c1 : V.cell? ⟨b, oo + i * 6 + 1, none⟩ = some (.int .i64 k)
 c2 : V.cell? ⟨b, oo + i * 6 + 2, none⟩ = some (.int .i64 nn)
 c3 : V.cell? ⟨b, oo + i * 6 + 3, none⟩ = some (.slice Aa ats.length ca)
 c4 : V.cell? ⟨b, oo + i * 6 + 4, none⟩ = some (.slice Ak ks.length ck)
 c5 : V.cell? ⟨b, oo + i * 6 + 5, none⟩ = some (.slice Al bl.length cl)
 ok : BindOk p.funs.length x k nn ats ks bl.length
 ha : AtomsIn B V Aa ats
 hs : ats.length ≤ 1000000
 hk : IntsIn B V Ak ks
 hks : ks.length ≤ 3000
 hbl : BlocksIn B V Al bl
 hwb : ∀ c ∈ bl, WfA p.funs.length c ∧ ShortA c
theorem TFr.bind_ (f : TFr X p B mb cb fv inp fuel s n W V0 t A0 c0) (hin : BodyIn B W t #[.slice A0 t.len c0, .bool t.last.v, .int .i64 t.last.n]) : ∃ b oo, (0 < t.len → A0 = some ⟨b, oo, none⟩) ∧ ∀ i, i < t.len → ∃ x k nn ats ks bl Aa ca Ak ck Al cl, ∀ V, Below B W V → TBind p B t i b oo V x k nn ats ks bl Aa ca Ak ck Al cl := by
 obtain ⟨A, c, b, oo, hv, hc, h96, hA, hB⟩ := hin.at_
 simp only [Array.mk.injEq, List.cons.injEq, Value.slice.injEq, and_true] at hv
 obtain ⟨⟨rfl, -, rfl⟩, -, -⟩ := hv
 refine ⟨b, oo, hA, fun i hi => ?_⟩
 obtain ⟨x, k, nn, ats, ks, bl, Aa, ca, Ak, ck, Al, cl, h1, h2⟩ := hB i hi
 refine ⟨x, k, nn, ats, ks, bl, Aa, ca, Ak, ck, Al, cl, fun V hbV => ?_⟩
 have hw : WfA p.funs.length (.bind x k nn ats ks bl (t.tail (i + 1))) := by rw [← h1]; exact f.wt.tail i
 have hsh : ShortA (.bind x k nn ats ks bl (t.tail (i + 1))) := by rw [← h1]; exact f.sh.tail i
 cases hw with
 | bind hbe hbb hbr =>
  cases hsh with
  | bind hk1 ha1 hb1 hr1 =>
   refine ⟨h1, h2.lt, (hbV.cell (p := ⟨_, _, none⟩) h2.lt).trans h2.c0, (hbV.cell (p := ⟨_, _, none⟩) h2.lt).trans h2.c1, (hbV.cell (p := ⟨_, _, none⟩) h2.lt).trans h2.c2, (hbV.cell (p := ⟨_, _, none⟩) h2.lt).trans h2.c3, (hbV.cell (p := ⟨_, _, none⟩) h2.lt).trans h2.c4, (hbV.cell (p := ⟨_, _, none⟩) h2.lt).trans h2.c5,
    bindOk_of hbe, h2.ha.below hbV, ha1, h2.hk.below hbV, hk1, ⟨h2.hl8, fun q hq => ?_⟩, fun c hc => ⟨hbb c hc, hb1 c hc⟩⟩
   obtain ⟨bb, o', g0, g1, g2, e1, e2, e3, e4, e5, hbd⟩ := h2.blk q hq
   exact ⟨bb, o', g0, g1, g2, e1, e2, (hbV.cell (p := ⟨_, _, none⟩) e2).trans e3, (hbV.cell (p := ⟨_, _, none⟩) e2).trans e4, (hbV.cell (p := ⟨_, _, none⟩) e2).trans e5, hbd.kept hbV⟩
section
variable {b oo : Nat} {x k nn : Int} {ats : List Atm} {ks : List Int} {bl : List Anf} {Aa Ak Al : Option Addr} {ca ck cl : Nat}
theorem TIn.cut_ (f : TFr X p B mb cb fv inp fuel s n W V0 t A0 c0) (ti : TIn X p B mb cb fv inp fuel s n W V0 t o i wr ev m s1 e1) (hb : TBind p B t i b oo wr x k nn ats ks bl Aa ca Ak ck Al cl) (h0 : s1.left = 0) (hV : Below wr.heap.size wr V) :
 Calls Tryz.prog 47 #[.pointer (some ⟨mb, 0, none⟩)] V (fun e w' => e = .returned (.bool false) ∧ TVal X B mb cb fv inp fuel s o W 0 0 none 0 0 w') := by
 refine (rstep_any (ti.go_.below hV)).mono fun e w' hp => ?_
 have ho : o = (.cut, s1) := by rw [ti.out, hb.at_]; exact evF_cut _ _ (by have := ti.lt; omega) _ _ _ _ _ _ _ _ _ h0
 have hp' : StepPostR (Bx X (W.heap.size + 1)) B mb cb fv inp fuel s1 V e w' := hp
 obtain ⟨hst, ⟨-, rfl, hg⟩ | ⟨h, -⟩⟩ := hp'
 · refine ⟨rfl, ?_⟩
   subst ho
   exact f.val_ (s2 := s1) (ti.st.trans (Stp.below hV ti.go_.hBW)) ti.gr ⟨hst, ⟨Nat.le_refl _, Nat.le_refl _⟩, 0, 0, none, 0, 0, rfl, hg⟩
 · exact absurd h0 h
theorem TIn.step_ (ti : TIn X p B mb cb fv inp fuel s n W V0 t o i wr ev m s1 e1) (h0 : s1.left ≠ 0) (hV : Below wr.heap.size wr V) :
 Calls Tryz.prog 47 #[.pointer (some ⟨mb, 0, none⟩)] V (fun e w' => e = .returned (.bool true) ∧ Stp B mb cb V w' ∧ RGo (Bx X (W.heap.size + 1)) B mb cb fv inp fuel.dec s1.dec w') := by
 refine (rstep_any (ti.go_.below hV)).mono fun e w' hp => ?_
 have hp' : StepPostR (Bx X (W.heap.size + 1)) B mb cb fv inp fuel s1 V e w' := hp
 obtain ⟨hst, ⟨h, -⟩ | ⟨-, rfl, hg⟩⟩ := hp'
 · exact absurd h h0
 · exact ⟨rfl, hst, hg⟩
theorem TIn.group_ (f : TFr X p B mb cb fv inp fuel s n W V0 t A0 c0) (ti : TIn X p B mb cb fv inp fuel s n W V0 t o i wr ev m s1 e1) (hb : ∀ V, Below B W V → TBind p B t i b oo V x 10 nn ats ks bl Aa ca Ak ck Al cl) (h0 : s1.left ≠ 0) (hst : Stp B mb cb wr V) (hg : RGo (Bx X (W.heap.size + 1)) B mb cb fv inp fuel.dec s1.dec V) :
 Calls Tryz.prog 48 #[.pointer (some ⟨cb, 0, none⟩), .agg #[.int .i64 10, .int .i64 nn, .slice Aa ats.length ca, .slice Ak ks.length ck, .slice Al bl.length cl], ev] V (fun en w' => ∃ pq,
  (atomsP (groupEnv ks s1.made.length e1) ats = none ∧ en = .returned (.tuple #[.pointer pq, .bool false]) ∧ w'.cell? ⟨cb, 0, none⟩ = some (.pointer (some ⟨mb, 0, none⟩)) ∧ Calls Tryz.prog 49 #[.pointer (some ⟨mb, 0, none⟩)] w' (TEnd X B mb cb fv inp fuel s o W)) ∨
  (∃ s2 e2, atomsP (groupEnv ks s1.made.length e1) ats ≠ none ∧ en = .returned (.tuple #[.pointer pq, .bool true]) ∧ TIn X p B mb cb fv inp fuel s n W V0 t o (i + 1) w' (.pointer pq) (m - 1) s2 e2)) := by
 have hst0 := ti.st.trans hst
 have hbV := hb V (f.belB hst0)
 have hlb := ti.go_.limB
 have hab := ti.go_.askB
 have hfb := ti.go_.fnsB
 have hlt := ti.lt
 have hg2 : RGo (Bx X (W.heap.size + 1)) B mb cb fv inp fuel s1.dec V := by
  have := hg.lim_ (l := fuel.lim) (by show fuel.lim - 1 ≤ _; omega) hlb
  exact this
 obtain ⟨q, hq⟩ := hbV.ok.group_
 have he := ti.env.step (hst.kp.mono ti.go_.hX) (Nat.le_refl _) (Nat.le_refl _)
 have ho := ti.out
 obtain ⟨m', rfl⟩ : ∃ m', m = m' + 1 := ⟨m - 1, by omega⟩
 rw [hbV.at_, evF_group _ _ _ _ _ _ _ _ _ _ (by omega)] at ho
 refine (rgroup_any (s := s1.dec) hg2 (by show s1.made.length + 1000 + 1000 * (s1.left - 1) ≤ _; omega) (f.hXV hst0) hq hbV.hks hbV.ha hbV.hs hbV.hk he 10 nn).mono fun en w' hp => ?_
 obtain ⟨hst2, ⟨l, pq, h1, rfl, hg3, he3⟩ | ⟨md, pq, h1, rfl, hg3, hmd⟩⟩ := hp
 · have h1' : atomsP (groupEnv ks s1.made.length e1) ats = some l := h1
   rw [h1'] at ho
   refine ⟨pq, .inr ⟨_, groupEnv ks s1.made.length e1, by rw [h1']; simp, rfl, ⟨hg3, hst0.trans hst2, ⟨?_, ti.gr.2⟩, ?_, he3, ho, by show s1.left - 1 < m'; omega, by have := ti.le; omega⟩⟩⟩
   · show s.made.length ≤ (s1.made ++ groupMade ks l).length
     have := ti.gr.1
     simp; omega
   · refine ti.mad.more (l := groupMade ks l) rfl fun c hc => ?_
     obtain ⟨j, hj, rfl⟩ := List.getElem_of_mem hc
     have hqq := groupMade_length q ks l hq.len
     have := groupMade_get q ks l hq.len j (hqq ▸ hj)
     rw [List.getElem?_eq_getElem hj] at this
     simp only [Option.some.injEq] at this
     rw [this]
     exact hq.f j (hqq ▸ hj)
 · have h1' : atomsP (groupEnv ks s1.made.length e1) ats = none := h1
   rw [h1'] at ho
   refine ⟨pq, .inl ⟨h1', rfl, hg3.c.ptr, (rstop_any hg3).mono fun e w2 hp => ?_⟩⟩
   have hr := ROut.stop hp
   refine f.end_ (s2 := s1.dec) (hst0.trans hst2) ti.gr ?_
   rw [ho]
   obtain ⟨g1, -, k, n', A, l, d, g3, md', g4⟩ := hr
   exact ⟨g1, ⟨Nat.le_refl _, Nat.le_refl _⟩, k, n', A, l, d, g3, md', g4⟩
theorem TIn.rhs_ (f : TFr X p B mb cb fv inp fuel s n W V0 t A0 c0) (ti : TIn X p B mb cb fv inp fuel s n W V0 t o i wr ev m s1 e1) (hb : ∀ V, Below B W V → TBind p B t i b oo V x k nn ats ks bl Aa ca Ak ck Al cl) (hk10 : k ≠ 10) (h0 : s1.left ≠ 0) (hst : Stp B mb cb wr V) (hg : RGo (Bx X (W.heap.size + 1)) B mb cb fv inp fuel.dec s1.dec V) :
 Calls Tryz.prog 50 #[.pointer (some ⟨cb, 0, none⟩), .agg #[.int .i64 k, .int .i64 nn, .slice Aa ats.length ca, .slice Ak ks.length ck, .slice Al bl.length cl], ev] V (ROut (Bx X (W.heap.size + 1)) B mb cb fv inp fuel s1.dec (sideF p inp (m - 1) k nn ats ks bl e1 s1.dec) V) := by
 have hst0 := ti.st.trans hst
 have hbV := hb V (f.belB hst0)
 have hlb := ti.go_.limB
 have hab := ti.go_.askB
 have hlt := ti.lt
 have hle := ti.le
 have he := ti.env.step (hst.kp.mono ti.go_.hX) (Nat.le_refl _) (Nat.le_refl _)
 refine (rrhs_any (f.hok (m - 1) (by omega)) f.wf (f.fv_.kept (f.belB hst0)) (s := s1.dec) ti.mad (by show s1.left - 1 < m - 1; omega) hg (by show fuel.lim - 1 < fuel.f; omega) (f.hXV hst0) he hbV.ok hk10 hbV.ha hbV.hs hbV.hk hbV.hbl hbV.hwb).mono fun en w' hp => ?_
 exact ROut.updu hp (by omega)
theorem TIn.side_val (f : TFr X p B mb cb fv inp fuel s n W V0 t A0 c0) (ti : TIn X p B mb cb fv inp fuel s n W V0 t o i wr ev m s1 e1) (hb : ∀ V, Below B W V → TBind p B t i b oo V x k nn ats ks bl Aa ca Ak ck Al cl) (hk10 : k ≠ 10) (h0 : s1.left ≠ 0) (hst : Stp B mb cb wr V) (hg : RGo (Bx X (W.heap.size + 1)) B mb cb fv inp fuel.dec s1.dec V) {v : PV} {s2 : FSt} (hv : sideF p inp (m - 1) k nn ats ks bl e1 s1.dec = (.val v, s2)) :
 Calls Tryz.prog 50 #[.pointer (some ⟨cb, 0, none⟩), .agg #[.int .i64 k, .int .i64 nn, .slice Aa ats.length ca, .slice Ak ks.length ck, .slice Al bl.length cl], ev] V (fun en w3 => ∃ k' n' A' l' d', en = .returned (.agg #[.int .i64 k', .int .i64 n', .slice A' l' d']) ∧ Stp B mb cb V w3 ∧ (∀ Z, Below w3.heap.size w3 Z → Z.cell? ⟨cb, 0, none⟩ = some (.pointer (some ⟨mb, 0, none⟩)) ∧ Calls Tryz.prog 51 #[.pointer (some ⟨mb, 0, none⟩)] Z fun e w => e = .returned (.bool false) ∧ Z = w) ∧
  ∀ Z, Below w3.heap.size w3 Z → TIn X p B mb cb fv inp fuel s n W V0 t o (i + 1) (Z.alloc (.cells #[.int .i64 x, .int .i64 k', .int .i64 n', .slice A' l' d', ev] 109)) (.pointer (some ⟨Z.heap.size, 0, none⟩)) (m - 1) s2 ((x, v) :: e1)) := by
 have hst0 := ti.st.trans hst
 have hbV := hb V (f.belB hst0)
 have hlt := ti.lt
 have hle := ti.le
 have ho := ti.out
 have hmd := hbV.ok
 have hsl := (sideF_le (p := p) inp (m - 1) k nn ats ks bl e1 s1.dec).left
 have hnx : MadeIn p.funs.length s2 := by
  have := bindF_in (funs := p.funs) (inp := inp) (nf := p.funs.length) (fun t e s => evF_in inp (fun g hg => (f.wf g hg).1) (m - 1) t e s) (fun g hg => (f.wf g hg).1)
  have h2 : MadeIn p.funs.length (sideF p inp (m - 1) k nn ats ks bl e1 s1.dec).2 := by
   unfold sideF
   split
   · exact rhsF_in (fun t e s => evF_in inp (fun g hg => (f.wf g hg).1) (m - 1) t e s) (fun g hg => (f.wf g hg).1) _ _ _ _ _ _ _ (fun hk => by subst hk; exact hbV.ok.close.2) (fun c hc => (hbV.hwb c hc).1) ti.mad
   · exact ti.mad
  rw [hv] at h2
  exact h2
 have hts : atomsP e1 ats = atomsP e1 ats := rfl
 rw [hv] at hsl
 obtain ⟨m', rfl⟩ : ∃ m', m = m' + 1 := ⟨m - 1, by omega⟩
 rw [hbV.at_, evF_side _ _ _ _ _ _ _ _ _ _ _ (by omega) hk10] at ho
 have hm1 : m' + 1 - 1 = m' := rfl
 rw [hm1] at hv
 have hv' : sideF p inp m' k nn ats ks bl e1 { s1 with left := s1.left - 1 } = (.val v, s2) := hv
 rw [hv'] at ho
 refine (ti.rhs_ f hb hk10 h0 hst hg).mono fun en w3 hp => ?_
 rw [hm1, hv] at hp
 obtain ⟨hst2, hgr, k', n', A', l', d', rfl, hg3, hvv⟩ := hp
 refine ⟨k', n', A', l', d', rfl, hst2, fun Z hZ => ⟨(hg3.below hZ).c.ptr, roff_any (hg3.below hZ)⟩, fun Z hZ => ?_⟩
 have hal := below_al1 Z (.cells #[.int .i64 x, .int .i64 k', .int .i64 n', .slice A' l' d', ev] 109)
 have hZ2 := hZ.trans (hal.mono hZ.size)
 have hnb := new1 Z (.cells #[.int .i64 x, .int .i64 k', .int .i64 n', .slice A' l' d', ev] 109)
 have hsz := (hst0.trans hst2).kp.size
 have he := ((ti.env.step (hst.kp.mono ti.go_.hX) (Nat.le_refl _) (Nat.le_refl _)).step (hst2.kp.mono ti.go_.hX) hgr.1 hgr.2).step (KpX.below hZ2) (Nat.le_refl _) (Nat.le_refl _)
 refine ⟨hg3.below hZ2, (hst0.trans hst2).trans (Stp.below hZ2 hg3.hBW), ⟨Nat.le_trans ti.gr.1 hgr.1, Nat.le_trans ti.gr.2 hgr.2⟩, hnx, ?_, ho, by have h1 : s2.left ≤ s1.left - 1 := hsl; omega, by omega⟩
 exact EIn.cons _ _ _ Z.heap.size _ _ _ _ (fun hx => by have := f.hXV (hst0.trans hst2) _ hx; have := hZ.size; omega) (cell_block hnb rfl) (cell_block hnb rfl) (cell_block hnb rfl) (cell_block hnb rfl) (cell_block hnb rfl) (hvv.step (KpX.below hZ2) (Nat.le_refl _) (Nat.le_refl _)) he
theorem TIn.side_off (f : TFr X p B mb cb fv inp fuel s n W V0 t A0 c0) (ti : TIn X p B mb cb fv inp fuel s n W V0 t o i wr ev m s1 e1) (hb : ∀ V, Below B W V → TBind p B t i b oo V x k nn ats ks bl Aa ca Ak ck Al cl) (hk10 : k ≠ 10) (h0 : s1.left ≠ 0) (hst : Stp B mb cb wr V) (hg : RGo (Bx X (W.heap.size + 1)) B mb cb fv inp fuel.dec s1.dec V) (hv : ∀ v s2, sideF p inp (m - 1) k nn ats ks bl e1 s1.dec ≠ (.val v, s2)) :
 Calls Tryz.prog 50 #[.pointer (some ⟨cb, 0, none⟩), .agg #[.int .i64 k, .int .i64 nn, .slice Aa ats.length ca, .slice Ak ks.length ck, .slice Al bl.length cl], ev] V (fun en w3 => ∃ k' n' A' l' d', en = .returned (.agg #[.int .i64 k', .int .i64 n', .slice A' l' d']) ∧ Stp B mb cb V w3 ∧ (∀ Z, Below w3.heap.size w3 Z → Z.cell? ⟨cb, 0, none⟩ = some (.pointer (some ⟨mb, 0, none⟩)) ∧ Calls Tryz.prog 51 #[.pointer (some ⟨mb, 0, none⟩)] Z fun e w => e = .returned (.bool true) ∧ Z = w) ∧
  ∀ Z, Below w3.heap.size w3 Z → TVal X B mb cb fv inp fuel s o W 0 0 none 0 0 Z) := by
 have hst0 := ti.st.trans hst
 have hbV := hb V (f.belB hst0)
 have hlt := ti.lt
 have ho := ti.out
 obtain ⟨m', rfl⟩ : ∃ m', m = m' + 1 := ⟨m - 1, by omega⟩
 rw [hbV.at_, evF_side _ _ _ _ _ _ _ _ _ _ _ (by omega) hk10] at ho
 have hm1 : m' + 1 - 1 = m' := rfl
 rw [hm1] at hv
 have ho2 : o = sideF p inp m' k nn ats ks bl e1 s1.dec := by
  rw [ho]
  have hv' : ∀ v s2, sideF p inp m' k nn ats ks bl e1 { s1 with left := s1.left - 1 } ≠ (.val v, s2) := hv
  generalize sideF p inp m' k nn ats ks bl e1 { s1 with left := s1.left - 1 } = q at *
  obtain ⟨r, s2⟩ := q
  cases r with
  | val v => exact absurd rfl (hv' v s2)
  | _ => rfl
 refine (ti.rhs_ f hb hk10 h0 hst hg).mono fun en w3 hp => ?_
 rw [hm1] at hp
 rw [← ho2] at hp hv
 obtain ⟨hst2, hgr, k', n', A', l', d', rfl, hoi⟩ := hp
 have hgr2 : s.made.length ≤ s1.dec.made.length ∧ s.cells.length ≤ s1.dec.cells.length := ti.gr
 refine ⟨k', n', A', l', d', rfl, hst2, ?_⟩
 have key : ∀ (s3 : FSt) (c1 c2 c3 : Bool) (y0 y1 y2 : Value), RIn (Bx X (W.heap.size + 1)) B mb cb fv inp fuel s3 c1 c2 c3 y0 y1 y2 w3 → (c1 || c2 || c3) = true → (∀ Z, Below w3.heap.size w3 Z → OutIn (Bx X (W.heap.size + 1)) B mb cb fv inp fuel Z (.int .i64 0) (.int .i64 0) (.slice none 0 0) o) →
  (∀ Z, Below w3.heap.size w3 Z → Z.cell? ⟨cb, 0, none⟩ = some (.pointer (some ⟨mb, 0, none⟩)) ∧ Calls Tryz.prog 51 #[.pointer (some ⟨mb, 0, none⟩)] Z fun e w => e = .returned (.bool true) ∧ Z = w) ∧ ∀ Z, Below w3.heap.size w3 Z → TVal X B mb cb fv inp fuel s o W 0 0 none 0 0 Z := by
  intro s3 c1 c2 c3 y0 y1 y2 hr hc hz
  refine ⟨fun Z hZ => ⟨(hr.below hZ).c.ptr, ?_⟩, fun Z hZ => ?_⟩
  · have := roff_any (hr.below hZ)
    rw [hc] at this
    exact this
  · exact f.val_ (s2 := s1.dec) hst0 hgr2 ⟨hst2.trans (Stp.below hZ hr.hBW), hgr, 0, 0, none, 0, 0, rfl, hz Z hZ⟩
 obtain ⟨r, s2⟩ := o
 cases r with
 | val v => exact absurd rfl (hv v s2)
 | raised v =>
  obtain ⟨y0, y1, y2, h1, h2, h3⟩ := hoi
  exact key _ _ _ _ _ _ _ h1 rfl (fun Z hZ => ⟨y0, y1, y2, h1.below hZ, h2.step (KpX.below hZ) (Nat.le_refl _) (Nat.le_refl _), h3⟩)
 | stuck =>
  obtain ⟨md, h1⟩ := hoi
  exact key _ _ _ _ _ _ _ h1 rfl (fun Z hZ => ⟨md, RIn.below h1 hZ⟩)
 | cut => exact key _ _ _ _ _ _ _ hoi rfl (fun Z hZ => RIn.below hoi hZ)
theorem TIn.ret_ (f : TFr X p B mb cb fv inp fuel s n W V0 t A0 c0) (ti : TIn X p B mb cb fv inp fuel s n W V0 t o i wr ev m s1 e1) (hi : t.len ≤ i) : o = match atomP e1 t.last with | some v => (.val v, s1) | none => (.stuck, s1) := by
 rw [ti.out, Anf.tail_ret t i hi]
 exact evF_ret _ _ (by have := ti.lt; omega) _ _ _
theorem TIn.last_ (f : TFr X p B mb cb fv inp fuel s n W V0 t A0 c0) (ti : TIn X p B mb cb fv inp fuel s n W V0 t o i wr ev m s1 e1) (hi : t.len ≤ i) (V : World) (hV : wr.alloc (.cells #[.bool t.last.v, .int .i64 t.last.n] 25) = V) :
 Calls Tryz.prog 52 #[.slice (some ⟨wr.heap.size, 0, none⟩) 1 1, ev] V (fun en w' => Below V.heap.size V w' ∧
  ((∃ b o' d k' n' A' l' d', atomP e1 t.last ≠ none ∧ en = .returned (.tuple #[.slice (some ⟨b, o', none⟩) 1 d, .bool true]) ∧ w'.cell? ⟨b, o', none⟩ = some (.int .i64 k') ∧ w'.cell? ⟨b, o' + 1, none⟩ = some (.int .i64 n') ∧ w'.cell? ⟨b, o' + 2, none⟩ = some (.slice A' l' d') ∧ TVal X B mb cb fv inp fuel s o W k' n' A' l' d' w') ∨
   (atomP e1 t.last = none ∧ en = .returned (.tuple #[.slice none 0 0, .bool false]) ∧ w'.cell? ⟨cb, 0, none⟩ = some (.pointer (some ⟨mb, 0, none⟩)) ∧ Calls Tryz.prog 49 #[.pointer (some ⟨mb, 0, none⟩)] w' (TEnd X B mb cb fv inp fuel s o W)))) := by
 have hal := below_al1 wr (.cells #[.bool t.last.v, .int .i64 t.last.n] 25)
 have hnb := new1 wr (.cells #[.bool t.last.v, .int .i64 t.last.n] 25)
 rw [hV] at hal hnb
 have ho := ti.ret_ f hi
 have hst1 : Stp B mb cb V0 V := ti.st.trans (Stp.below hal ti.go_.hBW)
 have hE := ti.env.step (KpX.below hal) (Nat.le_refl _) (Nat.le_refl _)
 have hlt : wr.heap.size < V.heap.size := (Array.getElem?_eq_some_iff.1 hnb).1
 have hA : AtomsIn V.heap.size V (some ⟨wr.heap.size, 0, none⟩) [t.last] := by
  refine ⟨by simp, .inr ⟨_, _, rfl, hlt, fun j hj => ?_⟩⟩
  simp at hj
  subst hj
  exact ⟨cell_block hnb rfl, cell_block hnb rfl⟩
 have hAt := ratoms_any (ca := 1) (f.hXV hst1) hE hA (by simp)
 refine hAt.mono fun en w' hp => ?_
 have hp' : AtPost (Bx X (W.heap.size + 1)) s1.made.length s1.cells.length V (atomsP e1 [t.last]) en w' := hp
 have hone : atomsP e1 [t.last] = (atomP e1 t.last).map (fun v => [v]) := by
  unfold atomsP
  cases atomP e1 t.last <;> rfl
 rw [hone] at hp'
 obtain ⟨hw, ⟨vs, A, d, h2, h3, h4, h5⟩ | ⟨h2, h3⟩⟩ := hp'
 · refine ⟨hw, .inl ?_⟩
   rcases hat : atomP e1 t.last with _ | v
   · rw [hat] at h2; cases h2
   · rw [hat] at h2 ho
     simp only [Option.map_some, Option.some.injEq] at h2
     subst h2
     obtain ⟨b, o', a0, a1, a2, rfl, c0, c1, c2, hv⟩ := h5.at_ (show 0 < [v].length by simp)
     obtain ⟨k1, n1, A1, l1, d1, rfl, rfl, rfl⟩ := hv.shape
     simp only [Nat.zero_mul, Nat.add_zero] at c0 c1 c2
     refine ⟨b, o', d, k1, n1, A1, l1, d1, by simp, h3, c0, c1, c2, ?_⟩
     refine f.val_ (s2 := s1) (hst1.trans (Stp.below hw (ti.go_.below hal).hBW)) ti.gr (V := w') ?_
     rw [ho]
     exact ⟨Stp.refl _, ⟨Nat.le_refl _, Nat.le_refl _⟩, _, _, _, _, _, rfl, (ti.go_.below hal).below hw, hv⟩
 · refine ⟨hw, .inr ?_⟩
   rcases hat : atomP e1 t.last with _ | v
   · rw [hat] at ho
     have hg := (ti.go_.below hal).below hw
     refine ⟨rfl, h3, hg.c.ptr, (rstop_any hg).mono fun e w2 hp => ?_⟩
     refine f.end_ (s2 := s1) (hst1.trans (Stp.below hw (ti.go_.below hal).hBW)) ti.gr ?_
     rw [ho]
     exact ROut.stop hp
   · rw [hat] at h2; cases h2
end
end
end Go.Proofs.YtnobggabjpcbfaaGreat
