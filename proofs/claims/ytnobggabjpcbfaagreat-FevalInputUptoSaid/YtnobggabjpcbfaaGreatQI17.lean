/-
 1 texts of this seat in one: H14.
-/
import Derived.Test.YtnobggabjpcbfaaGreatQI16
set_option maxRecDepth 100000
set_option maxHeartbeats 16000000
set_option linter.unusedVariables false
set_option linter.unusedSimpArgs false
namespace Go.Proofs.YtnobggabjpcbfaaGreat
open Go.RowKit
theorem infoClos : (Tryz.prog.info? 145).map (fun i => (i.zero, i.size, i.bytes)) = some (some (.pointer none), 1, 8) := by kernel_rfl
theorem undClos : Tryz.prog.underlying 144 = some (.slice 145) := by kernel_rfl
section
variable {rb B : Nat} {p : FlatP} {inp : List Int} {fuel n : Nat} {s : FSt} {m : Mem} {W : World}
theorem RepV.setClos {b : Nat} {f : Int} {h : Value} (hb : W.heap[b]? = some (.cells #[.int .i64 f, h] 147 (0, 0))) (u : Value) {v : PV} {g : Value} (hr : RepV rb m W v g) : RepV rb m (W.setCell ⟨b, 1, none⟩ u) v g := by
 induction hr with
 | int n => exact .int n
 | @blk tag kids bb g cap F hbb hg hgm hl hp h8 hc hk ih =>
  have h1 : bb ≠ b := by
   rintro rfl
   have := hbb.1.symm.trans hb
   simp only [Option.some.injEq, Obj.cells.injEq] at this
   exact absurd this.2.1 (by decide)
  have h2 : g ≠ b := by
   rintro rfl
   obtain ⟨U, y, hF⟩ := (hk 0 hp).shape
   have h0 := hc 0 hp
   rw [hF] at h0
   simp [World.cell?, hb] at h0
  exact .blk ⟨(heap_set_ne h1 _ _).trans hbb.1, hbb.2⟩ (by simpa [World.setCell] using hg) hgm hl hp h8 (fun j hj => (cell_of_heap (heap_set_ne h2 _ _) j).trans (hc j hj)) ih
 | fn h => exact .fn h
 | ref h => exact .ref h
theorem RowZ.setClos {b : Nat} {f : Int} {h : Value} (hb : W.heap[b]? = some (.cells #[.int .i64 f, h] 147 (0, 0))) (u : Value) {l : List PV} {A : Option Addr} (hr : RowZ rb m W l A) : RowZ rb m (W.setCell ⟨b, 1, none⟩ u) l A := fun h0 => by
 obtain ⟨g, F, h1, h2, h3, h4, h5⟩ := hr h0
 have hne : g ≠ b := by
  rintro rfl
  obtain ⟨U, y, hF⟩ := (h5 0 h0).shape
  have h6 := h4 0 h0
  rw [hF] at h6
  simp [World.cell?, hb] at h6
 exact ⟨g, F, h1, by simpa [World.setCell] using h2, h3, fun j hj => (cell_of_heap (heap_set_ne hne _ _) j).trans (h4 j hj), fun j hj => (h5 j hj).setClos hb u⟩
def GroupPost (rb B : Nat) (p : FlatP) (inp : List Int) (fuel : Nat) (s : FSt) (m : Mem) (W : World) (ks : List Int) (ats : List Atm) (e : PEnv) (en : Ending) (W' : World) : Prop :=
 (∃ l m' pp, atomsP (groupEnv ks s.made.length e) ats = some l ∧ en = .returned (.pointer pp) ∧ Evo rb m m' W W' ∧ Good rb B p inp fuel { s with made := s.made ++ groupMade ks l } m' W' ∧ EnvIn rb m' W' (groupEnv ks s.made.length e) (.pointer pp)) ∨
  (atomsP (groupEnv ks s.made.length e) ats = none ∧ en = .panicked (stopV 4) ∧ Below W.heap.size W W')
structure HoldIn (rb : Nat) (m : Mem) (W0 wr : World) (ks : List Int) (ge : Value) (q : Nat) (bs : List Nat) (lv gp : Value) (l : List PV) (A0 : Option Addr) (g : Nat) (j : Nat) (Aj : Option Addr) (L c : Nat) : Prop where
 fix : ∃ hv, FixIn W0 wr ks ge q hv bs lv gp ∧ ∀ i, i < j → HeldAt g (offN ks i) (nth ks (3 * i + 2)).toNat (hv i)
 row : RowZ rb m wr l A0
 eL : L + offN ks j = l.length
 ec : L ≤ c
 eA : 0 < L → Aj = some ⟨g, offN ks j, none⟩
theorem HoldIn.next {W0 wr : World} {ks : List Int} {ge : Value} {q : Nat} {bs : List Nat} {lv gp : Value} {l : List PV} {A0 : Option Addr} {g j : Nat} {Aj : Option Addr} {L c : Nat} (h : HoldIn rb m W0 wr ks ge q bs lv gp l A0 g j Aj L c) (hj : j < bs.length) {h2 : Nat} (hh : (nth ks (3 * j + 2)).toNat = h2) (hl : h2 ≤ L) {X Y : Option Addr} {c2 : Nat} (hX : 0 < h2 → X = some ⟨g, offN ks j, none⟩) (hY : 0 < L - h2 → Y = some ⟨g, offN ks j + h2, none⟩) (hc : L - h2 ≤ c2) :
 HoldIn rb m W0 (wr.setCell ⟨bs[j], 1, none⟩ (.slice X h2 h2)) ks ge q bs lv gp l A0 g (j + 1) Y (L - h2) c2 := by
 obtain ⟨hv, h1, h3⟩ := h.fix
 have hfb := h1.fnb j hj
 refine ⟨⟨_, h1.hold hj (.slice X h2 h2), fun i hi => ?_⟩, h.row.setClos hfb _, ?_, hc, ?_⟩
 · by_cases hij : i = j
   · subst hij
     rw [if_pos rfl, hh]
     exact ⟨X, h2, rfl, Nat.le_refl _, hX⟩
   · rw [if_neg hij]
     exact h3 i (by omega)
 · have := h.eL
   unfold offN
   rw [hh]; omega
 · unfold offN
   rw [hh]; exact hY
theorem HoldIn.drew {W0 wr : World} {ks : List Int} {ge : Value} {q : Nat} {bs : List Nat} {lv gp : Value} {l : List PV} {A0 : Option Addr} {g j : Nat} {Aj : Option Addr} {L c : Nat} (h : HoldIn rb m W0 wr ks ge q bs lv gp l A0 g j Aj L c) : HoldIn rb m W0 wr.drew ks ge q bs lv gp l A0 g j Aj L c := by
 obtain ⟨hv, h1, h3⟩ := h.fix
 exact ⟨⟨hv, h1.behind (Below.refl _ _).drew, h3⟩, h.row.evo (Evo.refl _ _ _).drew, h.eL, h.ec, h.eA⟩
theorem HoldIn.end_ (hg : Good rb B p inp fuel s m W) {W0 wr : World} (hW0 : Below W.heap.size W W0) {ks : List Int} {ats : List Atm} {ge : Value} {q : Nat} (hks : GroupOk p.funs.length ks ats.length q) {e : PEnv} (he : EnvIn rb m W e ge) {bs : List Nat} {lv : Value} {gp : Option Addr} {l : List PV} {A0 : Option Addr} {g : Nat} (hgA : 0 < l.length → A0 = some ⟨g, 0, none⟩) {Aj : Option Addr} {L c : Nat}
 (h : HoldIn rb { m with fa := m.fa ++ bs } W0 wr ks ge q bs lv (.pointer gp) l A0 g q Aj L c) (hl : l.length = ats.length) (ho : atomsP (groupEnv ks s.made.length e) ats = some l) : GroupPost rb B p inp fuel s m W ks ats e (.returned (.pointer gp)) wr := by
 obtain ⟨hv, h1, h3⟩ := h.fix
 have key : ∃ F : Nat → Value, (0 < l.length → g < wr.heap.size ∧ ¬ m.mut rb g) ∧ (∀ j, j < l.length → wr.cell? ⟨g, j, none⟩ = some (F j)) ∧ (∀ j (h : j < l.length), RepV rb { m with fa := m.fa ++ bs } wr l[j] (F j)) := by
  by_cases h0 : 0 < l.length
  · obtain ⟨g', F, k1, k2, k3, k4, k5⟩ := h.row h0
    rw [hgA h0] at k1
    cases k1
    exact ⟨F, fun _ => ⟨k2, k3⟩, k4, k5⟩
  · exact ⟨fun _ => .nilIface, fun h => absurd h h0, fun j hj => by omega, fun j hj => by omega⟩
 obtain ⟨F, k1, k2, k3⟩ := key
 obtain ⟨g1, g2, g3⟩ := hg.grouped hW0 hks he h1 hl k1 k2 k3 h3
 exact .inl ⟨l, _, gp, ho, rfl, g2, g1, g3⟩
theorem group_any (hg : Good rb B p inp fuel s m W) {ks : List Int} {ats : List Atm} {q : Nat} (hks : GroupOk p.funs.length ks ats.length q) {Aa Ak Al : Option Addr} {ca ck lb cb : Nat} (ha : AtomsIn W.heap.size W Aa ats) (hk : IntsIn W.heap.size W Ak ks) (hkc : ks.length ≤ ck) {e : PEnv} {ge : Value} (he : EnvIn rb m W e ge) (kk nn : Int) :
 Calls Tryz.prog 62 #[.agg #[.int .i64 kk, .int .i64 nn, .slice Aa ats.length ca, .slice Ak ks.length ck, .slice Al lb cb], ge] W (GroupPost rb B p inp fuel s m W ks ats e) := by
 obtain ⟨pk, rfl⟩ := he.shape
 have hlen := hks.len
 have hq1 := hks.q1
 obtain ⟨bk, ok, rfl, hbk, hkc2⟩ := hk.at_ (by omega)
 have hlen64 : q ≤ 10000000000000 := by have := hk.1; omega
 obtain ⟨W0, hW0⟩ : ∃ W0, W.alloc (.cells #[.int .i64 kk, .int .i64 nn, .slice Aa ats.length ca, .slice (some ⟨bk, ok, none⟩) ks.length ck, .slice Al lb cb] 60) = W0 := ⟨_, rfl⟩
 have hb0 : Below W.heap.size W W0 := by rw [← hW0]; exact (Below.refl _ _).alloc (Nat.le_refl _) _
 have hsz0 : W0.heap.size = W.heap.size + 1 := by rw [← hW0]; simp
 have hc2 : W0.cell? ⟨W.heap.size, 2, none⟩ = some (.slice Aa ats.length ca) := by rw [← hW0, World.cell?_alloc_at _ _ _ _ rfl]; rfl
 have hc3 : W0.cell? ⟨W.heap.size, 3, none⟩ = some (.slice (some ⟨bk, ok, none⟩) ks.length ck) := by rw [← hW0, World.cell?_alloc_at _ _ _ _ rfl]; rfl
 have HR := Lib.hid (fun (V : World) (hV : Below W0.heap.size W0 V) =>
  (show V.cell? ⟨W.heap.size, 2, none⟩ = some (.slice Aa ats.length ca) ∧ V.cell? ⟨W.heap.size, 3, none⟩ = some (.slice (some ⟨bk, ok, none⟩) (3 * q) ck) ∧ ∀ k, k < 3 * q → V.cell? ⟨bk, ok + k, none⟩ = some (.int .i64 (nth ks k)) from
   have hbb : Below W.heap.size W V := hb0.trans (hV.mono (by omega))
   ⟨(hV.cell (p := ⟨_, _, none⟩) (by show W.heap.size < _; omega)).trans hc2, by rw [← hlen]; exact (hV.cell (p := ⟨_, _, none⟩) (by show W.heap.size < _; omega)).trans hc3, fun k hk => (hbb.cell (p := ⟨_, _, none⟩) hbk).trans (hkc2 k (by omega))⟩))
 -- what atoms are, closures being known
 have HA := Lib.hid (fun (V : World) (bs : List Nat) (lv gp : Value) (h : FixIn W0 V ks (.pointer pk) q (fun _ => .slice none 0 0) bs lv gp) =>
  (show Calls Tryz.prog 82 #[gp, .slice Aa ats.length ca] V (AtomsPost rb { m with fa := m.fa ++ bs } V (atomsP (groupEnv ks s.made.length e) ats)) from by
   obtain ⟨k1, k2⟩ := hg.groupEnv_ hb0 hlen he h
   have hsz := Nat.le_trans hb0.size h.below.size
   have hWV : Below W.heap.size W V := hb0.trans (h.below.mono hb0.size)
   exact atoms_any (m := { m with fa := m.fa ++ bs }) (fun k hk => Nat.lt_of_lt_of_le (hg.mutLt hk) hsz) k2 ((ha.below hWV).mono hsz)))
 have HEND := Lib.hid (fun (wr : World) (bs : List Nat) (lv : Value) (gp : Option Addr) (l : List PV) (A0 : Option Addr) (g : Nat) (hgA : 0 < l.length → A0 = some ⟨g, 0, none⟩) (Aj : Option Addr) (L c : Nat) (h : HoldIn rb { m with fa := m.fa ++ bs } W0 wr ks (.pointer pk) q bs lv (.pointer gp) l A0 g q Aj L c) (ho : atomsP (groupEnv ks s.made.length e) ats = some l) =>
  (show GroupPost rb B p inp fuel s m W ks ats e (.returned (.pointer gp)) wr from HoldIn.end_ hg hb0 hks he hgA h (atomsP_len _ _ ho) ho))
 have HSUM := Lib.hid (fun (l : List PV) (ho : atomsP (groupEnv ks s.made.length e) ats = some l) => (show offN ks q = l.length from by rw [hks.sum, atomsP_len _ _ ho]))
 have HST := Lib.hid (fun (V : World) (hV : Below W.heap.size W V) (ho : atomsP (groupEnv ks s.made.length e) ats = none) => (show GroupPost rb B p inp fuel s m W ks ats e (.panicked (stopV 4)) V from .inr ⟨ho, rfl, hV⟩))
 have HH := Lib.hid hks.h
 have HB0 := Lib.hid hb0
 have HSZ := Lib.hid (show W.heap.size < W0.heap.size by omega)
 obtain ⟨i0, hinf, hz0, hz1, hz2⟩ := info_parts infoClos
 obtain ⟨AO, hAO⟩ : ∃ o, atomsP (groupEnv ks s.made.length e) ats = o := ⟨_, rfl⟩
 rw [hAO] at HA
 have HAO := Lib.hid hAO
 rw [hlen] at hW0 ⊢
 clear hc2 hc3 hkc2 hks hg he hb0 hsz0 ha hk hAO
 rw [hlen] at hkc
 clear hlen
 go_enter Tryz.func62, Tryz.ntmps62
 go_wp2_with fail
 go_loopw [6, 5, 1] (fun i l kn wr => ∃ (k : Nat) (bs : List Nat), k ≤ q ∧ i = .int .i64 (3 * (k : Int)) ∧ Hid (FixIn W0 wr ks (.pointer pk) k (fun _ => .slice none 0 0) bs l kn)) (fun i _ _ _ => 3 * q + 3 - (intOf i).toNat)
 case atStart => exact ⟨0, [], by omega, rfl, Lib.hid (FixIn.start _ _ _ _)⟩
 case round =>
  obtain ⟨k, bs, hk, rfl, HF⟩ := hrel
  by_cases hlt : k < q
  · obtain ⟨r2, r3, r4⟩ := HR.out wr HF.out.below
    have r5 := r4 (3 * k) (by omega)
    have r6 := r4 (3 * k + 1) (by omega)
    obtain ⟨kp, rfl⟩ := HF.out.lk.shape ⟨_, rfl⟩
    have hlt' : 3 * (k : Int) + 2 < 3 * (q : Int) := by omega
    have hw1 : IntKind.i64.wrap (3 * (k : Int) + 1) = 3 * (k : Int) + 1 := by rw [IntKind.wrap_i64]; omega
    have hw2 : IntKind.i64.wrap (3 * (k : Int) + 2) = 3 * (k : Int) + 2 := by rw [IntKind.wrap_i64]; omega
    have hw3 : IntKind.i64.wrap (3 * (k : Int) + 3) = 3 * (k : Int) + 3 := by rw [IntKind.wrap_i64]; omega
    have hge : (0 : Int) ≤ 3 * (k : Int) + 1 := by omega
    have hge2 : (0 : Int) ≤ 3 * (k : Int) := by omega
    have hlt3 : 3 * (k : Int) < 3 * (q : Int) := by omega
    have hlt4 : 3 * (k : Int) + 1 < 3 * (q : Int) := by omega
    have hn2 : (3 * (k : Int)).toNat = 3 * k := by omega
    have hn1 : (3 * (k : Int) + 1).toNat = 3 * k + 1 := by omega
    have hml : k + 1 ≤ maxLen := by unfold maxLen; omega
    have HROW := Lib.hid (show ((wr.alloc (.cells #[.int .i64 (nth ks (3 * k + 1)), .slice none 0 0] 147)).alloc (.cells #[.pointer (some ⟨wr.heap.size, 0, none⟩)] 145)).ownsRow W0.heap.size 145 1 u5 k (bs.map fun b => .pointer (some ⟨b, 0, none⟩)) from (HF.out.row.alloc _).alloc _)
    have HNEW := Lib.hid (show ∀ j u, [Value.pointer (some ⟨wr.heap.size, 0, none⟩)][j]? = some u → ((wr.alloc (.cells #[.int .i64 (nth ks (3 * k + 1)), .slice none 0 0] 147)).alloc (.cells #[.pointer (some ⟨wr.heap.size, 0, none⟩)] 145)).cell? ((⟨wr.heap.size + 1, 0, none⟩ : Addr).add j) = some u from by
     have := cell_one_new (wr.alloc (.cells #[.int .i64 (nth ks (3 * k + 1)), .slice none 0 0] 147)) (.pointer (some ⟨wr.heap.size, 0, none⟩)) 145
     rw [World.size_alloc] at this
     exact this)
    have hwsz := HF.out.below.size
    have hszz : W0.heap.size ≤ ((wr.alloc (.cells #[.int .i64 (nth ks (3 * k + 1)), .slice none 0 0] 147)).alloc (.cells #[.pointer (some ⟨wr.heap.size, 0, none⟩)] 145)).heap.size := by rw [World.size_alloc, World.size_alloc]; omega
    have HZ := Lib.hid (fun (w1 : World) (hgrow : ((wr.alloc (.cells #[.int .i64 (nth ks (3 * k + 1)), .slice none 0 0] 147)).alloc (.cells #[.pointer (some ⟨wr.heap.size, 0, none⟩)] 145)).grownBy w1 u5.ownBlock) =>
     have hb1 : Below W0.heap.size W0 w1 := (HF.out.below.trans ((below_two wr _ _).mono hwsz)).grown hgrow hszz (fun j hj => (HF.out.row.lt j hj).1)
     And.intro hb1 (HR.out w1 hb1))
    go_wp2_with (at_builtin; refine wpList_append_own _ rfl _ _ 144 rfl W0.heap.size 145 i0 (.pointer none) 1 8 undClos hinf hz0 hz1 hz2 rfl (by decide) _ _ _ rfl HROW.out ⟨wr.heap.size + 1, 0, none⟩ 1 1 [.pointer (some ⟨wr.heap.size, 0, none⟩)] rfl rfl HNEW.out (by simp [Value.oneCell']) hml (by omega) hszz ?_; intro v' w1 hown' hgrow _; obtain ⟨hb1, z2, z3, z4⟩ := HZ.out w1 hgrow; have z5 := z4 (3 * k) (by omega); clear z4)
    have hgrow' := hgrow
    change World.grownBy _ w1 u5.ownBlock at hgrow'
    have HM := Lib.hid (HF.out.more rfl hown' hgrow')
    clear hgrow hgrow' hown' r4
    go_roundw
    case rel => exact ⟨k + 1, bs ++ [wr.heap.size], by omega, by go_num, HM⟩
    case measure => simp [intOf]; omega
  · have hkq : k = q := by omega
    subst hkq
    obtain ⟨r2, r3, r4⟩ := HR.out wr HF.out.below
    clear r4
    have hlt' : ¬ 3 * (k : Int) + 2 < 3 * (k : Int) := by omega
    have hw2 : IntKind.i64.wrap (3 * (k : Int) + 2) = 3 * (k : Int) + 2 := by rw [IntKind.wrap_i64]; omega
    obtain ⟨kp, rfl⟩ := HF.out.lk.shape ⟨_, rfl⟩
    obtain ⟨gg, cap, rfl⟩ : ∃ g cap, u5 = .slice (some ⟨g, 0, none⟩) k cap := by
     rcases HF.out.row.2 with ⟨_, h0⟩ | ⟨g, cap, cur, h, _⟩
     · exact absurd h0 (by omega)
     · exact ⟨g, cap, h⟩
    have hcapk : k ≤ cap := by
     rcases HF.out.row.2 with ⟨h0, _⟩ | ⟨g, cap', cur, h, _, _, hn, _⟩
     · cases h0
     · cases h; exact hn
    have HK := Lib.hid hk
    clear hk
    have HCA := Lib.hid (HA.out wr bs _ _ HF.out)
    have HWR := Lib.hid (show Below W.heap.size W wr from HB0.out.trans (HF.out.below.mono HB0.out.size))
    go_wp2_with (go_at_call 82; refine HCA.out.mono ?_; rintro en w' (⟨l, A0, c0, hv, rfl, hlc, hrow, hw⟩ | ⟨hv, rfl, hw⟩); rotate_left; exact ⟨rfl, HST.out _ (HWR.out.trans (hw.mono HWR.out.size)) (HAO.out.trans hv)⟩)
    have HSU := Lib.hid (HSUM.out l (HAO.out.trans hv))
    obtain ⟨g, hgA⟩ : ∃ g, 0 < l.length → A0 = some ⟨g, 0, none⟩ := by
     by_cases h0 : 0 < l.length
     · obtain ⟨g, F, h1, _⟩ := hrow h0
       exact ⟨g, fun _ => h1⟩
     · exact ⟨0, fun h => absurd h h0⟩
    have HHO := Lib.hid (show HoldIn rb { m with fa := m.fa ++ bs } W0 w' ks (.pointer pk) k bs (.slice (some ⟨gg, 0, none⟩) k cap) (.pointer kp) l A0 g 0 A0 l.length c0 from
     ⟨⟨_, HF.out.behind hw, fun i hi => by omega⟩, hrow, by simp [offN], hlc, fun h => by rw [hgA h]; rfl⟩)
    have HFIN := Lib.hid (fun (wr : World) (Aj : Option Addr) (L c : Nat) (h : HoldIn rb { m with fa := m.fa ++ bs } W0 wr ks (.pointer pk) k bs (.slice (some ⟨gg, 0, none⟩) k cap) (.pointer kp) l A0 g k Aj L c) => HEND.out wr bs _ kp l A0 g hgA Aj L c h (HAO.out.trans hv))
    obtain ⟨m1, hm1⟩ : ∃ m1, m1 = { m with fa := m.fa ++ bs } := ⟨_, rfl⟩
    rw [← hm1] at HHO HFIN
    clear hrow hw hv hgA hlc HEND HST HSUM HCA HA hm1
    go_loopw [48, 8] (fun i av wr => ∃ (j : Nat) (Aj : Option Addr) (L c : Nat), j ≤ k ∧ i = .int .i64 (j : Int) ∧ av = .slice Aj L c ∧ Hid (HoldIn rb m1 W0 wr ks (.pointer pk) k bs (.slice (some ⟨gg, 0, none⟩) k cap) (.pointer kp) l A0 g j Aj L c)) (fun i _ _ => k + 1 - (intOf i).toNat)
    case atStart => exact ⟨0, A0, l.length, c0, by omega, rfl, rfl, HHO⟩
    case round =>
     obtain ⟨wr2, rfl⟩ : ∃ wo, wo = wr := ⟨_, rfl⟩
     obtain ⟨j, Aj, L, c, hj, rfl, rfl, HO⟩ := hrel
     by_cases hlt2 : j < k
     · obtain ⟨hv, hF, -⟩ := HO.out.fix
       have hjb : j < bs.length := by rw [hF.len]; exact hlt2
       obtain ⟨-, r3, r4⟩ := HR.out wr2 hF.below
       have r5 := r4 (3 * j + 2) (by omega)
       clear r4
       have hcell : wr2.cell? ⟨gg, j, none⟩ = some (.pointer (some ⟨bs[j], 0, none⟩)) := by
        have := World.ownsRow.cells hF.row (g := gg) rfl j (.pointer (some ⟨bs[j], 0, none⟩)) (by simp [List.getElem?_eq_getElem hjb])
        have ha : (⟨gg, 0, none⟩ : Addr).add j = ⟨gg, j, none⟩ := by unfold Addr.add; split <;> simp_all
        rwa [ha] at this
       have hfj := hF.fnb j hjb
       have hc1 : wr2.cell? ⟨bs[j], 1, none⟩ = some (hv j) := by simp [World.cell?, hfj]
       have hz1' : wr2.frozen? ⟨bs[j], 1, none⟩ = false := by simp [World.frozen?, hfj]
       obtain ⟨h2, hh2⟩ : ∃ h2 : Nat, nth ks (3 * j + 2) = (h2 : Int) := ⟨(nth ks (3 * j + 2)).toNat, by have := (HH.out j hlt2).1; omega⟩
       have h255 : h2 ≤ 255 := by have := (HH.out j hlt2).2; omega
       have hle : h2 ≤ L := by
        have h1 := HO.out.eL
        have h3 := offN_mono ks (show j + 1 ≤ k by omega)
        rw [HSU.out] at h3
        unfold offN at h3
        omega
       have hLc := HO.out.ec
       have HA1 := Lib.hid HO.out.eA
       have HN := Lib.hid (fun (X Y : Option Addr) (c2 : Nat) => HO.out.next hjb (h2 := h2) (by omega) hle (X := X) (Y := Y) (c2 := c2))
       rw [hh2] at r5
       generalize bs[j] = bj at *
       generalize hv j = hvj at *
       clear hF hfj
       have hj0 : (0 : Int) ≤ (j : Int) := by omega
       have hjk : (j : Int) < (k : Int) := by omega
       have hkc2 : (k : Int) ≤ (cap : Int) := by omega
       have w1 : IntKind.i64.wrap (3 * (j : Int)) = 3 * (j : Int) := by rw [IntKind.wrap_i64]; omega
       have w2 : IntKind.i64.wrap (3 * (j : Int) + 2) = 3 * (j : Int) + 2 := by rw [IntKind.wrap_i64]; omega
       have w3 : (0 : Int) ≤ 3 * (j : Int) + 2 := by omega
       have w4 : 3 * (j : Int) + 2 < 3 * (k : Int) := by omega
       have w5 : (3 * (j : Int) + 2).toNat = 3 * j + 2 := by omega
       have x0 : (0 : Int) ≤ (h2 : Int) := by omega
       have x1 : (h2 : Int) ≤ (c : Int) := by omega
       have x2 : (h2 : Int) ≤ (L : Int) := by omega
       clear HO
       go_wp2_with fail
       go_region
       all_goals
        have HN2 := Lib.hid ((HN.out Aj (if c = h2 then Aj else Option.map (fun x => x.add h2) Aj) (c - h2) (fun h => HA1.out (by omega)) (fun h => by
         rw [if_neg (by omega), HA1.out (by omega)]
         simp [Addr.add]) (by omega)).drew)
        generalize (if c = h2 then Aj else Option.map (fun x => x.add h2) Aj) = Y at *
        generalize (wr2.setCell ⟨bj, 1, none⟩ (.slice Aj h2 h2)).drew = V at *
        generalize L - h2 = L2 at *
        generalize c - h2 = c2 at *
        clear HN HFIN HHO HA1 hz1' hc1 hcell r5 r3
        go_wp2_with fail
        go_roundw
        case rel => exact ⟨j + 1, Y, L2, c2, by omega, by go_num, rfl, HN2⟩
        case measure => simp [intOf]; omega
     · have hjk : j = k := by omega
       subst hjk
       have HFI := Lib.hid (HFIN.out wr2 Aj L c HO.out)
       have hjj : ¬ (j : Int) < (j : Int) := by omega
       clear HO
       go_wp2_with fail
       go_ret
       exact HFI.out
end
end Go.Proofs.YtnobggabjpcbfaaGreat
