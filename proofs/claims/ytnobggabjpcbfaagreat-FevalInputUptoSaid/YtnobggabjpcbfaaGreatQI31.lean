/-
 2 texts of this seat in one: FV37 FV38.
-/
import Derived.Test.YtnobggabjpcbfaaGreatQI30
set_option maxRecDepth 100000
set_option maxHeartbeats 16000000
set_option linter.unusedVariables false
set_option linter.unusedSimpArgs false
namespace Go.Proofs.YtnobggabjpcbfaaGreat
open Go.RowKit
def preMade (ks : List Int) (j : Nat) : List (Int × List PV) := (List.range j).map fun i => (nth ks (3 * i + 1), [])
def midMade (ks : List Int) (l : List PV) (q j : Nat) : List (Int × List PV) := (List.range q).map fun i => (nth ks (3 * i + 1), if i < j then (l.drop (offN ks i)).take (nth ks (3 * i + 2)).toNat else [])
theorem preMade_len (ks : List Int) (j : Nat) : (preMade ks j).length = j := by simp [preMade]
theorem midMade_len (ks : List Int) (l : List PV) (q j : Nat) : (midMade ks l q j).length = q := by simp [midMade]
theorem preMade_succ (ks : List Int) (j : Nat) : preMade ks (j + 1) = preMade ks j ++ [(nth ks (3 * j + 1), [])] := by simp [preMade, List.range_succ]
theorem midMade_zero (ks : List Int) (l : List PV) (q : Nat) : midMade ks l q 0 = preMade ks q := by simp [midMade, preMade]
theorem midMade_full (ks : List Int) (l : List PV) (q : Nat) (h : ks.length = 3 * q) : midMade ks l q q = groupMade ks l := by
 apply List.ext_getElem?
 intro j
 by_cases hj : j < q
 · rw [groupMade_get q ks l h j hj]
   simp [midMade, hj]
 · rw [List.getElem?_eq_none (by rw [midMade_len]; omega), List.getElem?_eq_none (by rw [groupMade_length q ks l h]; omega)]
theorem midMade_set (ks : List Int) (l : List PV) {q j : Nat} (hj : j < q) : (midMade ks l q j).set j (nth ks (3 * j + 1), (l.drop (offN ks j)).take (nth ks (3 * j + 2)).toNat) = midMade ks l q (j + 1) := by
 apply List.ext_getElem (by simp [midMade_len])
 intro i h1 h2
 rw [midMade_len] at h2
 simp only [List.getElem_set, midMade, List.getElem_map, List.getElem_range]
 by_cases hij : j = i
 · subst hij; simp
 · simp only [hij, if_false]
   by_cases h3 : i < j
   · simp [h3, show i < j + 1 by omega]
   · simp [h3, show ¬ i < j + 1 by omega]
section
variable {X Y : Nat → Prop} {B mb cb n nf nc : Nat} {p : FlatP} {fv : Value} {inp : List Int} {fuel : FL} {s s1 : FSt} {W W' W1 W2 V0 w w' : World} {o : FOut}
theorem VRow.sub {A : Option Addr} {l : List PV} (h : VRow X nf nc w A l) {d a b : Nat} (hd : l.length ≤ d) (hab : a + b ≤ l.length) {A' : Option Addr} (hA : 0 < b → A' = A.map (fun x => x.add (a * 3))) : VRow X nf nc w A' ((l.drop a).take b) := by
 rcases Nat.eq_zero_or_pos b with h0 | h0
 · exact .inl (by rw [h0]; simp)
 · rcases h with h | ⟨bb, oo, G0, G1, G2, e, hx, c0, c1, c2, hs⟩
   · rw [h] at hab; simp at hab; omega
   · have hlen : ((l.drop a).take b).length = b := by simp; omega
     refine .inr ⟨bb, oo + a * 3, fun i => G0 (a + i), fun i => G1 (a + i), fun i => G2 (a + i), by rw [hA h0, e]; simp [Addr.add], hx, ?_, ?_, ?_, ?_⟩
     all_goals
      intro i hi
      rw [hlen] at hi
     · have := c0 (a + i) (by omega)
       rw [show oo + a * 3 + i * 3 = oo + (a + i) * 3 by omega]; exact this
     · have := c1 (a + i) (by omega)
       rw [show oo + a * 3 + i * 3 = oo + (a + i) * 3 by omega]; exact this
     · have := c2 (a + i) (by omega)
       rw [show oo + a * 3 + i * 3 = oo + (a + i) * 3 by omega]; exact this
     · have := hs (a + i) (by omega)
       simpa using this
theorem HIn.of_own {l : List PV} {xs : List Value} {v : Value} {base : Nat} (hxs : RVals (PV3 Y nf nc w) 3 l xs) (hk : KpX Y w w') (hown : w'.ownsRow base 46 3 v l.length xs) (hl : l.length ≤ 1000000) (hY : ∀ k, Y k → k < base) : HIn Y nf nc w' l v := by
 rcases Nat.eq_zero_or_pos l.length with h0 | h0
 · obtain ⟨A, n, c, rfl⟩ := own_shape hown
   have hn : n = l.length ∧ n ≤ c := by
    rcases hown.2 with ⟨h1, h2⟩ | ⟨g, cap, cur, hv, -, -, hnc, -⟩
    · cases h1; omega
    · cases hv; exact ⟨rfl, hnc⟩
   obtain ⟨rfl, hnc⟩ := hn
   exact ⟨A, c, rfl, hnc, hl, .inl (List.eq_nil_of_length_eq_zero h0)⟩
 · obtain ⟨g, cap, rfl, hg, hcap, -, -, hcell⟩ := own_cell hown h0
   exact ⟨_, cap, rfl, hcap, hl, VRow.mk_ (hxs.mono fun a c h => h.step hk (Nat.le_refl _) (Nat.le_refl _)) (fun hy => by have := hY g hy; omega) hcell⟩
structure MadeC (X : Nat → Prop) (nf nc g : Nat) (w : World) (ms : List (Int × List PV)) : Prop where
 row : ∃ G : Nat → Value, (∀ i (h : i < ms.length), w.cell? ⟨g, i * 2, none⟩ = some (.int .i64 ms[i].1)) ∧ (∀ i, i < ms.length → w.cell? ⟨g, i * 2 + 1, none⟩ = some (G i)) ∧ ∀ i (h : i < ms.length), HIn (Bx X g) nf nc w ms[i].2 (G i)
 fz : ∀ i, w.frozen? ⟨g, i, none⟩ = false
 lt : g < w.heap.size
theorem MadeC.below {g : Nat} {ms : List (Int × List PV)} (h : MadeC X nf nc g w ms) (hb : Below w.heap.size w w') : MadeC X nf nc g w' ms := by
 obtain ⟨⟨G, c0, c1, hh⟩, fz, lt⟩ := h
 have hk : KpX (Bx X g) w w' := KpX.below hb
 exact ⟨⟨G, fun i hi => (hb.cell (p := ⟨g, _, none⟩) lt).trans (c0 i hi), fun i hi => (hb.cell (p := ⟨g, _, none⟩) lt).trans (c1 i hi), fun i hi => (hh i hi).step hk (Nat.le_refl _) (Nat.le_refl _)⟩, fun i => (hb.frozen (p := ⟨g, i, none⟩) lt).trans (fz i), Nat.lt_of_lt_of_le lt hb.size⟩
theorem MadeC.cell {g : Nat} {ms : List (Int × List PV)} (h : MadeC X nf nc g w ms) {i : Nat} (hi : i < ms.length) : ∃ v, w.cell? ⟨g, i * 2 + 1, none⟩ = some v := by
 obtain ⟨⟨G, c0, c1, hh⟩, -, -⟩ := h
 exact ⟨_, c1 i hi⟩
theorem MadeC.set {g : Nat} {ms : List (Int × List PV)} (h : MadeC X nf nc g w ms) {i : Nat} (hi : i < ms.length) {l : List PV} {v : Value} (hv : HIn (Bx X g) nf nc w l v) : MadeC X nf nc g (w.setCell ⟨g, i * 2 + 1, none⟩ v) (ms.set i (ms[i].1, l)) := by
 obtain ⟨⟨G, c0, c1, hh⟩, fz, lt⟩ := h
 have hk : KpX (Bx X g) w (w.setCell ⟨g, i * 2 + 1, none⟩ v) := KpX.setCell w _ v (.inr rfl)
 refine ⟨⟨fun j => if j = i then v else G j, fun j hj => ?_, fun j hj => ?_, fun j hj => ?_⟩, fun j => ?_, by simpa [World.setCell] using lt⟩
 · rw [List.length_set] at hj
   rw [World.cell?_setCell_other _ _ _ _ (by simp <;> omega), c0 j hj, List.getElem_set]
   by_cases hji : i = j
   · subst hji; simp
   · simp [hji]
 · rw [List.length_set] at hj
   dsimp only
   by_cases hji : j = i
   · subst hji
     rw [if_pos rfl]
     exact cell_same (c1 j hj) _
   · rw [if_neg hji, World.cell?_setCell_other _ _ _ _ (by simp <;> omega)]
     exact c1 j hj
 · rw [List.length_set] at hj
   dsimp only
   by_cases hji : j = i
   · subst hji
     rw [if_pos rfl, List.getElem_set_self]
     exact hv.step hk (Nat.le_refl _) (Nat.le_refl _)
   · rw [if_neg hji, List.getElem_set_ne (Ne.symm hji)]
     exact (hh j hj).step hk (Nat.le_refl _) (Nat.le_refl _)
 · rw [World.frozen?_setCell]; exact fz j
theorem MadeC.row_ {g : Nat} {ms : List (Int × List PV)} (h : MadeC X nf nc g w ms) (hx : ¬ X g) : CRow X nf nc w (some ⟨g, 0, none⟩) ms := by
 obtain ⟨⟨G, c0, c1, hh⟩, -, -⟩ := h
 exact .inr ⟨g, 0, G, rfl, hx, fun i hi => by simpa using c0 i hi, fun i hi => by simpa using c1 i hi, fun i hi => (hh i hi).more (fun k hk => .inl (.inl hk))⟩
theorem MadeC.next {g : Nat} {m : List (Int × List PV)} {ks : List Int} {l : List PV} {q j : Nat} (h : MadeC X nf nc g w (m ++ midMade ks l q j)) (hj : j < q) {v : Value} {c : List PV} (hc : c = (l.drop (offN ks j)).take (nth ks (3 * j + 2)).toNat) (hv : HIn (Bx X g) nf nc w c v) : MadeC X nf nc g (w.setCell ⟨g, (m.length + j) * 2 + 1, none⟩ v) (m ++ midMade ks l q (j + 1)) := by
 subst hc
 have hi : m.length + j < (m ++ midMade ks l q j).length := by rw [List.length_append, midMade_len]; omega
 have := h.set hi hv
 have e1 : (m ++ midMade ks l q j)[m.length + j].1 = nth ks (3 * j + 1) := by
  rw [List.getElem_append_right (by omega)]
  simp [midMade]
 rw [e1, List.set_append_right _ _ (by omega), show m.length + j - m.length = j by omega, midMade_set ks l hj] at this
 exact this
theorem MadeC.start {ms : List (Int × List PV)} {xs : List Value} {g : Nat} (hxs : RVals (PC2 X nf nc w) 2 ms xs) (hb : Below w.heap.size w w') (hg : w.heap.size ≤ g) (hgl : g < w'.heap.size) (hf : ∀ i, w'.frozen? ⟨g, i, none⟩ = false) (hcell : ∀ j u, xs[j]? = some u → w'.cell? ⟨g, 0 + j, none⟩ = some u) : MadeC X nf nc g w' ms := by
 have hat : ∀ i, (hi : i < ms.length) → ∃ v, HIn X nf nc w ms[i].2 v ∧ xs[i * 2]? = some (.int .i64 ms[i].1) ∧ xs[i * 2 + 1]? = some v := fun i hi => by
  obtain ⟨c, ⟨x1, rfl, hv⟩, -, hj⟩ := hxs.at_ i hi
  have e0 := hj 0 (by omega)
  have e1 := hj 1 (by omega)
  simp only [Nat.add_zero, List.getElem?_cons_zero, List.getElem?_cons_succ] at e0 e1
  exact ⟨x1, hv, e0, e1⟩
 refine ⟨⟨fun i => xs[i * 2 + 1]?.getD default, fun i hi => ?_, fun i hi => ?_, fun i hi => ?_⟩, hf, hgl⟩
 · obtain ⟨v, hv, e0, e1⟩ := hat i hi
   have := hcell _ _ e0
   rwa [Nat.zero_add] at this
 · obtain ⟨v, hv, e0, e1⟩ := hat i hi
   have := hcell _ _ e1
   rw [Nat.zero_add] at this
   simp only [e1, Option.getD_some]; exact this
 · obtain ⟨v, hv, e0, e1⟩ := hat i hi
   simp only [e1, Option.getD_some]
   exact (hv.more (Y := Bx X g) (fun k hk => hk.imp id (fun e => by omega))).step (KpX.below hb) (Nat.le_refl _) (Nat.le_refl _)
structure Grp1 (X : Nat → Prop) (B mb cb : Nat) (fv : Value) (inp : List Int) (fuel : FL) (s : FSt) (W0 : World) (ks : List Int) (e : PEnv) (j : Nat) (wr : World) (ev : Value) : Prop where
 go_ : RGo X B mb cb fv inp fuel { s with made := s.made ++ preMade ks j } wr
 st : Stp B mb cb W0 wr
 env : EIn X (s.made.length + j) s.cells.length wr (groupEnv (ks.take (3 * j)) s.made.length e) ev
theorem Grp1.next {W0 : World} {ks : List Int} {e : PEnv} {j : Nat} {ev : Value} (h : Grp1 X B mb cb fv inp fuel s W0 ks e j w ev) (hX : ∀ k, X k → k < w.heap.size) (hj : 3 * j + 2 < ks.length) {en : Ending} (hp : ROut X B mb cb fv inp fuel { s with made := s.made ++ preMade ks j } (.val (.fn (s.made ++ preMade ks j).length), { s with made := (s.made ++ preMade ks j) ++ [(nth ks (3 * j + 1), [])] }) w en w') :
 en = .returned (.agg #[.int .i64 3, .int .i64 ((s.made.length : Int) + (j : Int)), .slice none 0 0]) ∧ Stp B mb cb W0 w' ∧
  Grp1 X B mb cb fv inp fuel s W0 ks e (j + 1) (w'.alloc (.cells #[.int .i64 (nth ks (3 * j)), .int .i64 3, .int .i64 ((s.made.length : Int) + (j : Int)), .slice none 0 0, ev] 109)) (.pointer (some ⟨w'.heap.size, 0, none⟩)) := by
 have hcast : (s.made.length : Int) + (j : Int) = ((s.made.length + j : Nat) : Int) := by omega
 rw [hcast]
 obtain ⟨hst, -, k, n, A, l, d, rfl, hg, hv⟩ := hp
 have hl : (s.made ++ preMade ks j).length = s.made.length + j := by simp [preMade_len]
 have hw := hst.kp.size
 cases hv with
 | fn i hi =>
  rw [hl]
  have hal := below_al1 w' (.cells #[.int .i64 (nth ks (3 * j)), .int .i64 3, .int .i64 ((s.made.length + j : Nat) : Int), .slice none 0 0, ev] 109)
  have hn := new1 w' (.cells #[.int .i64 (nth ks (3 * j)), .int .i64 3, .int .i64 ((s.made.length + j : Nat) : Int), .slice none 0 0, ev] 109)
  refine ⟨rfl, h.st.trans hst, ⟨?_, (h.st.trans hst).trans (Stp.below hal hg.hBW), ?_⟩⟩
  · have := hg.below hal
    rw [preMade_succ, ← List.append_assoc]
    exact this
  · rw [groupEnv_take ks _ e hj]
    have he := (h.env.step (hst.kp.mono h.go_.hX) (show s.made.length + j ≤ s.made.length + (j + 1) by omega) (Nat.le_refl _)).step (KpX.below hal) (Nat.le_refl _) (Nat.le_refl _)
    exact EIn.cons _ _ _ w'.heap.size _ _ _ _ (fun hx => by have := hX _ hx; omega) (cell_block hn rfl) (cell_block hn rfl) (cell_block hn rfl) (cell_block hn rfl) (cell_block hn rfl) (.fn _ (by omega)) he
def GPost (X : Nat → Prop) (B mb cb : Nat) (fv : Value) (inp : List Int) (fuel : FL) (s : FSt) (W : World) (ks : List Int) (ats : List Atm) (e : PEnv) (en : Ending) (W' : World) : Prop :=
 Stp B mb cb W W' ∧ ((∃ l pq, atomsP (groupEnv ks s.made.length e) ats = some l ∧ en = .returned (.tuple #[.pointer pq, .bool true]) ∧ RGo X B mb cb fv inp fuel { s with made := s.made ++ groupMade ks l } W' ∧ EIn X (s.made ++ groupMade ks l).length s.cells.length W' (groupEnv ks s.made.length e) (.pointer pq)) ∨
  (∃ md pq, atomsP (groupEnv ks s.made.length e) ats = none ∧ en = .returned (.tuple #[.pointer pq, .bool false]) ∧ RGo X B mb cb fv inp fuel { s with made := md } W' ∧ s.made.length ≤ md.length))
end
end Go.Proofs.YtnobggabjpcbfaaGreat
namespace Go.Proofs.YtnobggabjpcbfaaGreat
open Go.RowKit
section
variable {X Y : Nat → Prop} {B mb cb n nf nc : Nat} {p : FlatP} {fv : Value} {inp : List Int} {fuel : FL} {s s1 : FSt} {W W' W1 W2 V0 w w' : World} {o : FOut}
theorem rgroup_any (h : RGo X B mb cb fv inp fuel s W) (hlim : s.made.length + 1000 + 1000 * s.left ≤ 1000 * fuel.lim) (hX : ∀ k, X k → k < W.heap.size) {ks : List Int} {ats : List Atm} {q nf : Nat} (hks : GroupOk nf ks ats.length q) (hkl : ks.length ≤ 3000) {Aa Ak Al : Option Addr} {ca ck lb cbl : Nat} (ha : AtomsIn B W Aa ats) (hs : ats.length ≤ 1000000) (hk : IntsIn B W Ak ks) {e : PEnv} {pv : Value} (he : EIn X s.made.length s.cells.length W e pv) (kk nn : Int) :
 Calls Tryz.prog 48 #[.pointer (some ⟨cb, 0, none⟩), .agg #[.int .i64 kk, .int .i64 nn, .slice Aa ats.length ca, .slice Ak ks.length ck, .slice Al lb cbl], pv] W (GPost X B mb cb fv inp fuel s W ks ats e) := by
 obtain ⟨pk, rfl⟩ := he.shape
 have hlen := hks.len
 have hq1 := hks.q1
 have hlt := own_lt h
 have hBW := h.hBW
 have hfb := h.fuelB
 have hlb := h.limB
 obtain ⟨bk, ok, rfl, hbk, hkc2⟩ := hk.at_ (by omega)
 obtain ⟨V0, hV0⟩ : ∃ V0, W.alloc (.cells #[.int .i64 kk, .int .i64 nn, .slice Aa ats.length ca, .slice (some ⟨bk, ok, none⟩) ks.length ck, .slice Al lb cbl] 60) = V0 := ⟨_, rfl⟩
 have hb0 : Below W.heap.size W V0 := by rw [← hV0]; exact below_al1 _ _
 have hbx : V0.heap[W.heap.size]? = some (.cells #[.int .i64 kk, .int .i64 nn, .slice Aa ats.length ca, .slice (some ⟨bk, ok, none⟩) ks.length ck, .slice Al lb cbl] 60 (0, 0)) := by rw [← hV0]; exact new1 _ _
 have hsz0 : W.heap.size < V0.heap.size := (Array.getElem?_eq_some_iff.1 hbx).1
 have hno : ¬ Own2 mb cb W.heap.size := fun e => by rcases e with e | e <;> omega
 have hst0 : Stp B mb cb W V0 := Stp.below hb0 hBW
 have HR := Lib.hid (fun (V : World) (hV : Stp B mb cb V0 V) =>
  (show V.cell? ⟨W.heap.size, 2, none⟩ = some (.slice Aa ats.length ca) ∧ V.cell? ⟨W.heap.size, 3, none⟩ = some (.slice (some ⟨bk, ok, none⟩) (3 * q) ck) ∧ (∀ k, k < 3 * q → V.cell? ⟨bk, ok + k, none⟩ = some (.int .i64 (nth ks k))) ∧ W.heap.size < V.heap.size ∧ bk < V.heap.size from by
   have hbb := hV.kp.same _ _ hbx rfl hno
   have hsz := hV.kp.size
   exact ⟨cell_block hbb rfl, by rw [← hlen]; exact cell_block hbb rfl, fun k hk => (((hb0.mono hBW).trans hV.bel).cell (p := ⟨_, _, none⟩) hbk).trans (hkc2 k (by omega)), by omega, by omega⟩))
 have HG0 := Lib.hid (show Grp1 X B mb cb fv inp fuel s V0 ks e 0 V0 (.pointer pk) from by
  refine ⟨?_, Stp.refl _, ?_⟩
  · have := h.below hb0
    simpa [preMade] using this
  · have := he.step (KpX.below hb0) (Nat.le_refl _) (Nat.le_refl _)
    have e1 : groupEnv (ks.take (3 * 0)) s.made.length e = e := by simp [groupEnv]
    rw [e1]; exact this)
 have HCL := Lib.hid (fun (j : Nat) (hj : j < q) (wr : World) (ev : Value) (hg : Grp1 X B mb cb fv inp fuel s V0 ks e j wr ev) =>
  (show Calls Tryz.prog 68 #[.pointer (some ⟨cb, 0, none⟩), .agg #[.int .i64 (nth ks (3 * j + 1)), .slice none 0 0]] wr.drew (fun en w' => en = .returned (.agg #[.int .i64 3, .int .i64 ((s.made.length : Int) + (j : Int)), .slice none 0 0]) ∧ Stp B mb cb V0 w' ∧
   Grp1 X B mb cb fv inp fuel s V0 ks e (j + 1) (w'.alloc (.cells #[.int .i64 (nth ks (3 * j)), .int .i64 3, .int .i64 ((s.made.length : Int) + (j : Int)), .slice none 0 0, ev] 109)) (.pointer (some ⟨w'.heap.size, 0, none⟩))) from by
   have hd : Below wr.heap.size wr wr.drew := (Below.refl _ _).drew
   have hsz := hg.st.kp.size
   have hXr : ∀ k, X k → k < wr.drew.heap.size := fun k hk => by have := hX k hk; show k < wr.heap.size; omega
   have hg2 : Grp1 X B mb cb fv inp fuel s V0 ks e j wr.drew ev := ⟨hg.go_.below hd, hg.st.trans (Stp.below hd hg.go_.hBW), hg.env.step (KpX.below hd) (Nat.le_refl _) (Nat.le_refl _)⟩
   refine (rclose_any (f := (nth ks (3 * j + 1), [])) hg2.go_ hXr (by simp only [List.length_append, preMade_len]; omega) ⟨none, 0, rfl, Nat.le_refl _, by simp, .inl rfl⟩).mono fun en w' hp => hg2.next hXr (by omega) hp))
 obtain ⟨m2c, m2f, m2⟩ : ∃ Af cf, V0.cell? ⟨cb, 2, none⟩ = some (.slice Af s.made.length cf) := by
  obtain ⟨Af, cf, hcb, -⟩ := (h.below hb0).c
  exact ⟨Af, cf, cell_block hcb rfl⟩
 have HAT := Lib.hid (fun (wr : World) (ev : Value) (hg : Grp1 X B mb cb fv inp fuel s V0 ks e q wr ev) => (show ∃ pq, ev = .pointer pq ∧ EIn X (s.made.length + q) s.cells.length wr (groupEnv ks s.made.length e) (.pointer pq) ∧ Calls Tryz.prog 52 #[.slice Aa ats.length ca, .pointer pq] wr (AtPost X (s.made.length + q) s.cells.length wr (atomsP (groupEnv ks s.made.length e) ats)) from by
  have hE := hg.env
  rw [List.take_of_length_le (by omega)] at hE
  obtain ⟨pq, rfl⟩ := hE.shape
  have hsz := hg.st.kp.size
  exact ⟨pq, rfl, hE, ratoms_any (fun k hk => by have := hX k hk; omega) hE ((ha.below ((hb0.mono hBW).trans hg.st.bel)).mono hg.go_.hBW) hs⟩))
 have HNO := Lib.hid (fun (wr V : World) (pq : Option Addr) (hg : Grp1 X B mb cb fv inp fuel s V0 ks e q wr (.pointer pq)) (hV : Below wr.heap.size wr V) (ho : atomsP (groupEnv ks s.made.length e) ats = none) => (show GPost X B mb cb fv inp fuel s W ks ats e (.returned (.tuple #[.pointer pq, .bool false])) V from
  ⟨(hst0.trans hg.st).trans (Stp.below hV hg.go_.hBW), .inr ⟨_, pq, ho, rfl, hg.go_.below hV, by simp⟩⟩))
 -- the copy
 have HCP := Lib.hid (fun (wr V : World) (ev : Value) (hg : Grp1 X B mb cb fv inp fuel s V0 ks e q wr ev) (hV : Below wr.heap.size wr V) => (show ∃ Af cf xs, V.cell? ⟨cb, 2, none⟩ = some (.slice Af (s.made.length + q) cf) ∧ (∀ i, V.frozen? ⟨cb, i, none⟩ = false) ∧ xs.length = (s.made.length + q) * 2 ∧ RowI V Af xs ∧ (∀ u ∈ xs, u.oneCell' = true) ∧ RVals (PC2 X (s.made.length + q) s.cells.length V) 2 (s.made ++ preMade ks q) xs from by
  obtain ⟨Af, cf, xs, hcb, hxs, hrow⟩ := (hg.go_.below hV).fnsL
  have hl : (s.made ++ preMade ks q).length = s.made.length + q := by simp [preMade_len]
  rw [hl] at hcb hxs
  refine ⟨Af, cf, xs, cell_block hcb rfl, fun i => by simp [World.frozen?, hcb], ?_, hrow, hxs.one (fun a c h => h.one), hxs⟩
  rw [hxs.len, hl]))
 have HEND := Lib.hid (fun (wr w0 w5 : World) (pq : Option Addr) (g cap : Nat) (l : List PV) (hg : Grp1 X B mb cb fv inp fuel s V0 ks e q wr (.pointer pq)) (hE : EIn X (s.made.length + q) s.cells.length wr (groupEnv ks s.made.length e) (.pointer pq)) (h0 : Below wr.heap.size wr w0) (h5 : Below w0.heap.size w0 w5) (hgl : w0.heap.size ≤ g) (hcap : s.made.length + q ≤ cap) (hm : MadeC X (s.made.length + q) s.cells.length g w5 (s.made ++ midMade ks l q q)) (ho : atomsP (groupEnv ks s.made.length e) ats = some l) =>
  (show GPost X B mb cb fv inp fuel s W ks ats e (.returned (.tuple #[.pointer pq, .bool true])) (w5.setCell ⟨cb, 2, none⟩ (.slice (some ⟨g, 0, none⟩) (s.made.length + q) cap)) from by
   rw [midMade_full ks l q hlen] at hm
   have hl : (s.made ++ groupMade ks l).length = s.made.length + q := by simp [groupMade_length q ks l hlen]
   have hgx : ¬ X g := fun hx => by
    have := hX g hx
    have := hg.st.kp.size
    have := h0.size
    omega
   have r := (hg.go_.below h0).fnsR h5 (l := s.made ++ groupMade ks l) (A := some ⟨g, 0, none⟩) (cap := cap) (by rw [hl]; simp [preMade_len]) (by rw [hl]; exact hcap) (by rw [hl]; show s.made.length + q + 1000 * s.left ≤ _; omega) (by rw [hl]; exact hm.row_ hgx)
   rw [hl] at r
   refine ⟨(hst0.trans hg.st).trans ((Stp.below h0 hg.go_.hBW).trans r.2), .inl ⟨l, pq, ho, rfl, r.1, ?_⟩⟩
   rw [hl]
   exact (hE.step (KpX.below h0) (Nat.le_refl _) (Nat.le_refl _)).step (r.2.kp.mono h.hX) (Nat.le_refl _) (Nat.le_refl _)))
 -- held values
 have HSUM := Lib.hid (fun (l : List PV) (ho : atomsP (groupEnv ks s.made.length e) ats = some l) => (show offN ks q = l.length from by rw [hks.sum, atomsP_len _ _ ho]))
 have HHH := Lib.hid hks.h
 have HXX := Lib.hid hX
 have hmq : s.made.length + q ≤ 1000000000 := by have := h.fnsB; omega
 have hq3 : q ≤ 1000 := by omega
 clear hst0 h hX ha hlim hlb hfb
 clear hks hk hkc2 hbx hno he
 obtain ⟨AO, hAO⟩ : ∃ o, atomsP (groupEnv ks s.made.length e) ats = o := ⟨_, rfl⟩
 have HAO := Lib.hid hAO
 rw [hAO] at HAT
 clear hAO hb0
 rw [hlen] at hV0 ⊢
 clear hlen hkl
 go_enter Tryz.func48, Tryz.ntmps48
 go_wp2_with fail
 go_loopw [9, 2] (fun i ev wr => ∃ (k : Nat), k ≤ q ∧ i = .int .i64 (3 * (k : Int)) ∧ Hid (Grp1 X B mb cb fv inp fuel s V0 ks e k wr ev)) (fun i _ _ => 3 * q + 3 - (intOf i).toNat)
 case atStart => exact ⟨0, by omega, rfl, HG0⟩
 case round =>
  obtain ⟨k, hk, rfl, HF⟩ := hrel
  by_cases hlt2 : k < q
  · obtain ⟨r2, r3, r4, r5, r6⟩ := HR.out wr HF.out.st
    have z0 := r4 (3 * k) (by omega)
    have z1 := r4 (3 * k + 1) (by omega)
    clear r4
    have hlt' : 3 * (k : Int) + 2 < 3 * (q : Int) := by omega
    have hw1 : IntKind.i64.wrap (3 * (k : Int) + 1) = 3 * (k : Int) + 1 := by rw [IntKind.wrap_i64]; omega
    have hw2 : IntKind.i64.wrap (3 * (k : Int) + 2) = 3 * (k : Int) + 2 := by rw [IntKind.wrap_i64]; omega
    have hw3 : IntKind.i64.wrap (3 * (k : Int) + 3) = 3 * (k : Int) + 3 := by rw [IntKind.wrap_i64]; omega
    have hge : (0 : Int) ≤ 3 * (k : Int) + 1 := by omega
    have hge2 : (0 : Int) ≤ 3 * (k : Int) := by omega
    have hlt3 : 3 * (k : Int) < 3 * (q : Int) := by omega
    have hlt4 : 3 * (k : Int) + 1 < 3 * (q : Int) := by omega
    have hn2 : (3 * (k : Int)).toNat = 3 * k := by omega
    have hn1 : (3 * (k : Int) + 1).toNat = 3 * k + 1 := by omega
    obtain ⟨pe, rfl⟩ := HF.out.env.shape
    have HC := Lib.hid (HCL.out k hlt2 wr _ HF.out)
    have HRK := Lib.hid (fun (w' : World) (hst : Stp B mb cb V0 w') => (show w'.cell? ⟨W.heap.size, 3, none⟩ = some (.slice (some ⟨bk, ok, none⟩) (3 * q) ck) ∧ w'.cell? ⟨bk, ok + 3 * k, none⟩ = some (.int .i64 (nth ks (3 * k))) ∧ w'.cell? ⟨bk, ok + (3 * k + 1), none⟩ = some (.int .i64 (nth ks (3 * k + 1))) from by
     obtain ⟨-, y3, y4, y5, y6⟩ := HR.out w' hst
     exact ⟨y3, y4 _ (by omega), y4 _ (by omega)⟩))
    have HP0 := Lib.hid (show wr.drew.cell? ⟨W.heap.size, 3, none⟩ = some (.slice (some ⟨bk, ok, none⟩) (3 * q) ck) ∧ wr.drew.cell? ⟨bk, ok + 3 * k, none⟩ = some (.int .i64 (nth ks (3 * k))) ∧ wr.drew.cell? ⟨bk, ok + (3 * k + 1), none⟩ = some (.int .i64 (nth ks (3 * k + 1))) from HRK.out wr.drew (HF.out.st.trans (Stp.below (Below.refl _ _).drew HF.out.go_.hBW)))
    have HB0 := Lib.hid (fun (w' : World) (h : Grp1 X B mb cb fv inp fuel s V0 ks e (k + 1) (w'.alloc (.cells #[.int .i64 (nth ks (3 * k)), .int .i64 3, .int .i64 ((s.made.length : Int) + (k : Int)), .slice none 0 0, .pointer pe] 109)) (.pointer (some ⟨w'.heap.size, 0, none⟩))) => HRK.out _ h.st)
    generalize nth ks (3 * k) = xk at *
    generalize nth ks (3 * k + 1) = fk at *
    go_wp2_with fail
    go_region_held2 (fun V => V.cell? ⟨W.heap.size, 3, none⟩ = some (.slice (some ⟨bk, ok, none⟩) (3 * q) ck) ∧ V.cell? ⟨bk, ok + 3 * k, none⟩ = some (.int .i64 (xk)) ∧ V.cell? ⟨bk, ok + (3 * k + 1), none⟩ = some (.int .i64 (fk)))
     (with_reducible (first | exact HP0.out | exact HP1.out | exact HP2.out))
     ((first
     | (go_at_call 68; refine HC.out.mono ?_; rintro en w' ⟨rfl, hst, hnx⟩; have HNX := Lib.hid hnx; have HP1 := Lib.hid (HRK.out w' hst); have HP2 := Lib.hid (HB0.out w' hnx); clear hnx hst)))
    all_goals
     go_wp2_with fail
     go_roundw
     case rel => exact ⟨k + 1, by omega, by go_num, HNX⟩
     case measure => simp [intOf]; omega
  · have hkq : k = q := by omega
    subst hkq
    obtain ⟨r2, r3, r4, r5, r6⟩ := HR.out wr HF.out.st
    clear r4
    have hlt' : ¬ 3 * (k : Int) + 2 < 3 * (k : Int) := by omega
    have hw2 : IntKind.i64.wrap (3 * (k : Int) + 2) = 3 * (k : Int) + 2 := by rw [IntKind.wrap_i64]; omega
    obtain ⟨pq, rfl, hE, hA⟩ := HAT.out wr _ HF.out
    have HE := Lib.hid hE
    have HF2 := Lib.hid HF.out
    have hsw := HF.out.st.kp.size
    rcases AO with _ | l
    · have HA := Lib.hid (hA.mono fun en w0 (hp : AtPost X (s.made.length + k) s.cells.length wr none en w0) => (show en = .returned (.tuple #[.slice none 0 0, .bool false]) ∧ GPost X B mb cb fv inp fuel s W ks ats e (.returned (.tuple #[.pointer pq, .bool false])) w0 from by
       obtain ⟨hw, ⟨l, A, d, hv, -⟩ | ⟨-, rfl⟩⟩ := hp
       · cases hv
       · exact ⟨rfl, HNO.out wr w0 pq HF2.out hw HAO.out⟩))
      clear HNO HEND HCP HE hE hA HF HAT HCL HG0 HF2
      go_wp2_with (go_at_call 52; refine HA.out.mono ?_; rintro en w0 ⟨rfl, hE⟩; have HEE := Lib.hid hE; clear hE)
      go_ret2
      exact HEE.out
    have hll : l.length = ats.length := atomsP_len _ _ HAO.out
    have hl6 : l.length ≤ 1000000 := by omega
    have HLL := Lib.hid hll
    clear hll
    have HA := Lib.hid (hA.mono fun en w0 (hp : AtPost X (s.made.length + k) s.cells.length wr (some l) en w0) => (show ∃ A d Af cf xs, en = .returned (.tuple #[.slice A l.length d, .bool true]) ∧ Below wr.heap.size wr w0 ∧ l.length ≤ d ∧ VRow X (s.made.length + k) s.cells.length w0 A l ∧ w0.cell? ⟨cb, 2, none⟩ = some (.slice Af (s.made.length + k) cf) ∧ (∀ i, w0.frozen? ⟨cb, i, none⟩ = false) ∧ xs.length = (s.made.length + k) * 2 ∧ RowI w0 Af xs ∧ (∀ u ∈ xs, u.oneCell' = true) ∧ RVals (PC2 X (s.made.length + k) s.cells.length w0) 2 (s.made ++ preMade ks k) xs from by
     obtain ⟨hw, ⟨l', A, d, hv, rfl, hld, hrow⟩ | ⟨hv, -⟩⟩ := hp
     · cases hv
       obtain ⟨Af, cf, xs, h1, h2, h3, h4, h5, h6⟩ := HCP.out wr w0 _ HF2.out hw
       exact ⟨A, d, Af, cf, xs, rfl, hw, hld, hrow, h1, h2, h3, h4, h5, h6⟩
     · cases hv))
    obtain ⟨inf0, hinf, hz0, hz1, hz2⟩ := info_parts Tryz.infoClo
    clear HNO HCP hE hA HF HAT HCL HG0
    have hn0 : 0 < s.made.length + k := by omega
    have hcb0 : cb < wr.heap.size := by omega
    go_wp2_with (first
     | (go_at_call 52; refine HA.out.mono ?_; rintro en w0 ⟨A, d, Af, cf, xs, rfl, hw, hld, hrow, m3, mf, hxl, hri, hone, hxs⟩; have hcb1 : cb < w0.heap.size := Nat.lt_of_lt_of_le hcb0 hw.size; have m4 : (w0.alloc (.cells #[] 132)).cell? ⟨cb, 2, none⟩ = some (.slice Af (s.made.length + k) cf) := cell_behind (below_al1 w0 _) m3; have HRI := Lib.hid (hri.below (below_al1 w0 (.cells #[] 132))); have HW0 := Lib.hid hw; have HROW := Lib.hid hrow; have HXS := Lib.hid hxs; have HOE := Lib.hid (own_empty w0 (Nat.le_refl _) 132 2); clear hri hw hrow hxs)
     | (at_builtin; refine wpList_append_row _ rfl _ _ 77 rfl w0.heap.size 132 inf0 _ 2 32 Tryz.underlying77 hinf hz0 hz1 hz2 rfl (by decide) _ 0 [] rfl HOE.out Af (s.made.length + k) cf xs rfl hxl HRI.out hone (by simp only [maxLen]; omega) (by omega) (below_al1 w0 _).size ?_; intro v1 w1 hown1 hgr1 hat1; have HB1 := Lib.hid (grown_below (below_al1 w0 _) hgr1 (own_ge HOE.out)); obtain ⟨g, cap, rfl, hg, hcap, hgf, hgl, hcell⟩ := own_cell (own_size (show s.made.length + k = 0 + (s.made.length + k) by omega) hown1) hn0; have HMC := Lib.hid (MadeC.start HXS.out HB1.out hg hgl hgf hcell); clear hown1 hat1 hgr1 hcell hgf))
    have HMC0 := Lib.hid (show MadeC X (s.made.length + k) s.cells.length g w1 (s.made ++ midMade ks l k 0) from by rw [midMade_zero]; exact HMC.out)
    obtain ⟨inf1, hinf1, hz01, hz11, hz21⟩ := info_parts Tryz.infoV
    have HST1 := Lib.hid (fun (V : World) (hV : Below w0.heap.size w0 V) => (show Stp B mb cb V0 V from HF2.out.st.trans (Stp.below (HW0.out.trans (hV.mono HW0.out.size)) HF2.out.go_.hBW)))
    clear HMC HA
    go_loopw [13, 14] (fun fr i wr => ∃ (j : Nat), j ≤ k ∧ i = .int .i64 (3 * (j : Int)) ∧ fr = .int .i64 ((offN ks j : Nat) : Int) ∧ Hid (Below w0.heap.size w0 wr) ∧ Hid (MadeC X (s.made.length + k) s.cells.length g wr (s.made ++ midMade ks l k j))) (fun _ i _ => 3 * k + 3 - (intOf i).toNat)
    case atStart => exact ⟨0, by omega, rfl, rfl, HB1, HMC0⟩
    case round =>
     obtain ⟨wr2, rfl⟩ : ∃ wo, wo = wr := ⟨_, rfl⟩
     obtain ⟨j, hj, rfl, rfl, HB2, HM2⟩ := hrel
     by_cases hjk : j < k
     · obtain ⟨h2, hh2⟩ : ∃ h2 : Nat, nth ks (3 * j + 2) = (h2 : Int) := ⟨(nth ks (3 * j + 2)).toNat, by have := (HHH.out j hjk).1; omega⟩
       have h255 : h2 ≤ 255 := by have := (HHH.out j hjk).2; omega
       obtain ⟨fo, hfo⟩ : ∃ fo, offN ks j = fo := ⟨_, rfl⟩
       have hle : fo + h2 ≤ l.length := by
        have h3 := offN_mono ks (show j + 1 ≤ k by omega)
        rw [HSUM.out l HAO.out] at h3
        unfold offN at h3
        omega
       have hfs : offN ks (j + 1) = fo + h2 := by unfold offN; omega
       have HFS := Lib.hid hfs
       have HFO := Lib.hid hfo
       obtain ⟨r2, r3, r4, r5, r6⟩ := HR.out wr2 (HST1.out _ HB2.out)
       have z0 := r4 (3 * j + 2) (by omega)
       rw [hh2] at z0
       rw [hfo]
       have HH2 := Lib.hid hh2
       have hmi : s.made.length + j < (s.made ++ midMade ks l k j).length := by rw [List.length_append, midMade_len]; omega
       obtain ⟨hv0, hcg⟩ := HM2.out.cell hmi
       have hfg := HM2.out.fz ((s.made.length + j) * 2 + 1)
       have hglt := HM2.out.lt
       clear r4 hh2 hfs hfo
       have w1' : IntKind.i64.wrap (3 * (j : Int)) = 3 * (j : Int) := by rw [IntKind.wrap_i64]; omega
       have w2' : IntKind.i64.wrap (3 * (j : Int) + 2) = 3 * (j : Int) + 2 := by rw [IntKind.wrap_i64]; omega
       have w3' : IntKind.i64.wrap (3 * (j : Int) + 3) = 3 * (j : Int) + 3 := by rw [IntKind.wrap_i64]; omega
       have w4' : IntKind.i64.wrap ((fo : Int) + (h2 : Int)) = ((fo + h2 : Nat) : Int) := by rw [IntKind.wrap_i64]; omega
       have w5' : IntKind.i64.wrap ((s.made.length : Int) + (j : Int)) = ((s.made.length + j : Nat) : Int) := by rw [IntKind.wrap_i64]; omega
       have w6' : (3 * (j : Int) + 2).toNat = 3 * j + 2 := by omega
       have w7' : (0 : Int) ≤ 3 * (j : Int) + 2 := by omega
       have w8' : 3 * (j : Int) + 2 < 3 * (k : Int) := by omega
       have w9' : (3 * (j : Int)).tdiv 3 = (j : Int) := Int.mul_tdiv_cancel_left _ (by decide)
       have w10' : IntKind.i64.wrap (j : Int) = (j : Int) := by rw [IntKind.wrap_i64]; omega
       have w11' : ((s.made.length + j : Nat) : Int) < ((s.made.length + k : Nat) : Int) := by omega
       have w12' : (s.made.length : Int) + (j : Int) < (s.made.length : Int) + (k : Int) := by omega
       have w13' : (0 : Int) ≤ (s.made.length : Int) + (j : Int) := by omega
       have w14' : ((s.made.length : Int) + (j : Int)).toNat = s.made.length + j := by omega
       obtain ⟨Y, hY⟩ : ∃ Y, (if d = fo then A else Option.map (fun x => x.add (fo * 3)) A) = Y := ⟨_, rfl⟩
       have HRS := Lib.hid (show VRow X (s.made.length + k) s.cells.length w0 Y ((l.drop fo).take h2) from HROW.out.sub hld hle (fun h0 => by rw [← hY, if_neg (by omega)]))
       obtain ⟨xs2, hxs2, hri2⟩ := HRS.out.list
       have hlt2 : ((l.drop fo).take h2).length = h2 := by simp; omega
       have hxl2 : xs2.length = h2 * 3 := by rw [hxs2.len, hlt2]
       have hone2 := hxs2.one (fun a c h => h.one)
       have HXS2 := Lib.hid hxs2
       have HRI2 := Lib.hid (hri2.below (HB2.out.trans ((below_al1 wr2 (.cells #[] 46)).mono HB2.out.size)))
       have HOE2 := Lib.hid (own_empty wr2 (Nat.le_refl _) 46 3)
       clear hxs2 hri2
       have HNX := Lib.hid (fun (w2 : World) (v2 : Value) (hown : w2.ownsRow wr2.heap.size 46 3 v2 h2 xs2) (hgr : Below wr2.heap.size wr2 w2) =>
        (show (w2.cell? ⟨W.heap.size, 3, none⟩ = some (.slice (some ⟨bk, ok, none⟩) (3 * k) ck) ∧ w2.cell? ⟨bk, ok + (3 * j + 2), none⟩ = some (.int .i64 (h2 : Int)) ∧ (∃ u, w2.cell? ⟨g, (s.made.length + j) * 2 + 1, none⟩ = some u) ∧ w2.frozen? ⟨g, (s.made.length + j) * 2 + 1, none⟩ = false ∧ g < w2.heap.size) ∧
         (w2.setCell ⟨g, (s.made.length + j) * 2 + 1, none⟩ v2).cell? ⟨W.heap.size, 3, none⟩ = some (.slice (some ⟨bk, ok, none⟩) (3 * k) ck) ∧ (w2.setCell ⟨g, (s.made.length + j) * 2 + 1, none⟩ v2).cell? ⟨bk, ok + (3 * j + 2), none⟩ = some (.int .i64 (h2 : Int)) ∧
         Below w0.heap.size w0 (w2.setCell ⟨g, (s.made.length + j) * 2 + 1, none⟩ v2) ∧ MadeC X (s.made.length + k) s.cells.length g (w2.setCell ⟨g, (s.made.length + j) * 2 + 1, none⟩ v2) (s.made ++ midMade ks l k (j + 1)) from by
         have hm2 := HM2.out.below hgr
         have hb02 : Below w0.heap.size w0 w2 := HB2.out.trans (hgr.mono HB2.out.size)
         have q3 := cell_behind hgr r3
         have q4 := cell_behind hgr z0
         have hlr : wr2.heap.size ≤ w2.heap.size := hgr.size
         have hw01 := HB1.out.size
         have hw12 := HB2.out.size
         have hww := HW0.out.size
         have hh2' := HH2.out
         have hfo' := HFO.out
         refine ⟨⟨q3, q4, hm2.cell hmi, hm2.fz _, hm2.lt⟩, (World.cell?_setCell_far _ _ (⟨W.heap.size, 3, none⟩ : Addr) _ (show g ≠ W.heap.size by omega)).trans q3, (World.cell?_setCell_far _ _ (⟨bk, _, none⟩ : Addr) _ (show g ≠ bk by omega)).trans q4, ?_, ?_⟩
         · exact hb02.setCell (p := ⟨g, _, none⟩) hg _
         · refine hm2.next hjk (c := (l.drop fo).take h2) (by rw [hfo', hh2']; rfl) ?_
           refine HIn.of_own (w := w0) (HXS2.out.mono fun a c h => ?_) (KpX.below hb02) (by rw [hlt2]; exact hown) (by rw [hlt2]; omega) (fun i hi => ?_)
           · obtain ⟨x, y, z, e, hv⟩ := h
             exact ⟨x, y, z, e, hv.bx hg⟩
           · rcases hi with hi | hi
             · have := HXX.out _ hi; omega
             · omega))
       clear hglt hfg hcg
       go_wp2_with (at_builtin; refine wpList_append_row _ rfl _ _ 43 rfl wr2.heap.size 46 inf1 _ 3 40 Tryz.underlying43 hinf1 hz01 hz11 hz21 rfl (by decide) _ 0 [] rfl HOE2.out _ _ _ xs2 rfl (by rw [hxl2]; omega) (by first | exact HRI2.out | (rw [hY]; exact HRI2.out)) hone2 (by simp only [maxLen]; omega) (by omega) (below_al1 wr2 _).size ?_; intro v2 w2 hown2 hgr2 hat2; have hown3 := own_size (show h2 = _ by omega) hown2; have HB3 := Lib.hid (grown_below (below_al1 wr2 _) hgr2 (own_ge HOE2.out)); obtain ⟨A2, n2, c2, rfl⟩ := own_shape hown3; obtain ⟨⟨p0, p1, ⟨u2', p2⟩, p3, p4⟩, p5, p6, hbn, hmn⟩ := HNX.out w2 _ hown3 HB3.out; have HBN := Lib.hid hbn; have HMN := Lib.hid hmn; clear hown2 hown3 hgr2 hat2 hbn hmn)
       go_roundw
       case rel => exact ⟨j + 1, by omega, by go_num, by rw [HFS.out]; push_cast; rfl, HBN, HMN⟩
       case measure => simp [intOf]; omega
     · have hjk : j = k := by omega
       subst hjk
       obtain ⟨r2, r3, r4, r5, r6⟩ := HR.out wr2 (HST1.out _ HB2.out)
       have HEE := Lib.hid (HEND.out wr w0 wr2 pq g cap l HF2.out HE.out HW0.out HB2.out hg hcap HM2.out HAO.out)
       have hlt3 : ¬ 3 * (j : Int) + 2 < 3 * (j : Int) := by omega
       have w2' : IntKind.i64.wrap (3 * (j : Int) + 2) = 3 * (j : Int) + 2 := by rw [IntKind.wrap_i64]; omega
       have q5 := cell_behind (HB2.out) m3
       have q6 : wr2.frozen? ⟨cb, 2, none⟩ = false := (HB2.out.frozen (p := ⟨cb, 2, none⟩) hcb1).trans (mf 2)
       have q7 : cb < wr2.heap.size := lt_of_cell q5
       clear r4 HEND
       go_wp2_with fail
       go_ret2
       exact HEE.out
end
end Go.Proofs.YtnobggabjpcbfaaGreat
