/-
 3 texts of this seat in one: H5 H6 H7.
-/
import Derived.Test.YtnobggabjpcbfaaGreatQI4
import Derived.BigRegion
set_option maxRecDepth 100000
set_option maxHeartbeats 16000000
set_option linter.unusedVariables false
set_option linter.unusedSimpArgs false
namespace Go.Proofs.YtnobggabjpcbfaaGreat
open Go.RowKit
theorem infoVal : (Tryz.prog.info? 92).map (fun i => (i.zero, i.size, i.bytes)) = some (some .nilIface, 1, 16) := by kernel_rfl
theorem undVals : Tryz.prog.underlying 117 = some (.slice 92) := by kernel_rfl
def RowZ (rb : Nat) (m : Mem) (W : World) (l : List PV) (A : Option Addr) : Prop :=
 0 < l.length → ∃ (g : Nat) (F : Nat → Value), A = some ⟨g, 0, none⟩ ∧ g < W.heap.size ∧ ¬ m.mut rb g ∧ (∀ j, j < l.length → W.cell? ⟨g, j, none⟩ = some (F j)) ∧ ∀ j (h : j < l.length), RepV rb m W l[j] (F j)
theorem RowZ.row {rb : Nat} {m : Mem} {W : World} {l : List PV} {A : Option Addr} (h : RowZ rb m W l A) : RowV rb m W l A := fun h0 => by
 obtain ⟨g, F, h1, h2, h3, h4, h5⟩ := h h0
 exact ⟨g, 0, F, h1, h2, h3, fun j hj => by simpa using h4 j hj, h5⟩
theorem RowZ.evo {rb : Nat} {m m' : Mem} {W W' : World} (hk : Evo rb m m' W W') {l : List PV} {A : Option Addr} (h : RowZ rb m W l A) : RowZ rb m' W' l A := fun h0 => by
 obtain ⟨g, F, rfl, hg, hm, hc, hr⟩ := h h0
 exact ⟨g, F, rfl, Nat.lt_of_lt_of_le hg hk.size, hk.still hg hm, fun j hj => (cell_of_heap (hk.same _ hg hm) _).trans (hc j hj), fun j hj => (hr j hj).evo hk⟩
def AtomsPost (rb : Nat) (m : Mem) (W : World) (o : Option (List PV)) (e : Ending) (w' : World) : Prop :=
 (∃ l A cap, o = some l ∧ e = .returned (.slice A l.length cap) ∧ l.length ≤ cap ∧ RowZ rb m w' l A ∧ Below W.heap.size W w') ∨ (o = none ∧ e = .panicked (stopV 4) ∧ Below W.heap.size W w')
theorem atomsP_take {e : PEnv} : ∀ (l : List Atm) (j : Nat) (h : j < l.length) (acc : List PV), atomsP e (l.take j) = some acc → (∀ v, atomP e l[j] = some v → atomsP e (l.take (j + 1)) = some (acc ++ [v])) ∧ (atomP e l[j] = none → atomsP e l = none)
 | a :: l, 0, h, acc, h1 => by
  simp only [List.take_zero, atomsP, Option.some.injEq] at h1
  subst h1
  refine ⟨fun v hv => ?_, fun hv => ?_⟩
  · simp only [List.getElem_cons_zero] at hv
    simp [atomsP, hv]
  · simp only [List.getElem_cons_zero] at hv
    simp [atomsP, hv]
 | a :: l, j + 1, h, acc, h1 => by
  simp only [List.take_succ_cons, atomsP] at h1
  cases ha : atomP e a with
  | none => rw [ha] at h1; cases h1
  | some v0 =>
   rw [ha] at h1
   simp only [Option.map_eq_some_iff] at h1
   obtain ⟨acc', h2, rfl⟩ := h1
   obtain ⟨q1, q2⟩ := atomsP_take l j (by simpa using h) acc' h2
   refine ⟨fun v hv => ?_, fun hv => ?_⟩
   · simp only [List.getElem_cons_succ] at hv
     simp only [List.take_succ_cons, atomsP, ha, q1 v hv]
     rfl
   · simp only [List.getElem_cons_succ] at hv
     simp only [atomsP, ha, q2 hv]
     rfl
structure FillIn (rb : Nat) (m : Mem) (W : World) (acc : List PV) (wr : World) (rv : Value) (Fs : List Value) : Prop where
 below : Below W.heap.size W wr
 row : wr.ownsRow W.heap.size 92 1 rv acc.length Fs
 rep : ∀ i (h : i < acc.length), ∃ F, Fs[i]? = some F ∧ RepV rb m W acc[i] F
theorem FillIn.start (rb : Nat) (m : Mem) (W : World) : FillIn rb m W [] W (.slice none 0 0) [] := ⟨Below.refl _ _, ⟨by simp, .inl ⟨rfl, rfl⟩⟩, by intro i h; simp at h⟩
theorem FillIn.behind {rb : Nat} {m : Mem} {W : World} {acc : List PV} {wr : World} {rv : Value} {Fs : List Value} (h : FillIn rb m W acc wr rv Fs) {V : World} (hV : Below wr.heap.size wr V) : FillIn rb m W acc V rv Fs :=
 ⟨h.below.trans (hV.mono h.below.size), h.row.kept ⟨hV.os, hV.tape, hV.output, hV.size, fun i hi _ => hV.block i hi⟩ (row := none) (by cases rv.ownBlock <;> simp), h.rep⟩
theorem FillIn.more {rb : Nat} {m : Mem} {W : World} {acc : List PV} {wr : World} {rv : Value} {Fs : List Value} (h : FillIn rb m W acc wr rv Fs) {v : PV} {F : Value} (hv : RepV rb m W v F) {w1 : World} {rv' : Value}
 (hown : w1.ownsRow W.heap.size 92 1 rv' (acc.length + 1) (Fs ++ [F])) (hgrow : (wr.alloc (.cells #[F] 92)).grownBy w1 rv.ownBlock) : FillIn rb m W (acc ++ [v]) w1 rv' (Fs ++ [F]) := by
 have hs := h.below.size
 have hb1 : Below W.heap.size W (wr.alloc (.cells #[F] 92)) := h.below.alloc hs _
 refine ⟨hb1.grown hgrow hb1.size (fun j hj => (h.row.lt j hj).1), by simpa using hown, fun i hi => ?_⟩
 have hl : Fs.length = acc.length := by simpa using h.row.1
 by_cases hi' : i < acc.length
 · obtain ⟨F', h1, h2⟩ := h.rep i hi'
   exact ⟨F', by rw [List.getElem?_append_left (by omega)]; exact h1, by rw [List.getElem_append_left hi']; exact h2⟩
 · have : i = acc.length := by simp at hi; omega
   subst this
   exact ⟨F, by rw [List.getElem?_append_right (by omega)]; simp [hl], by simpa using hv⟩
theorem FillIn.whole {rb : Nat} {m : Mem} {W : World} (hm : ∀ k, m.mut rb k → k < W.heap.size) {acc : List PV} {wr : World} {rv : Value} {Fs : List Value} (h : FillIn rb m W acc wr rv Fs) : ∃ A cap, rv = .slice A acc.length cap ∧ acc.length ≤ cap ∧ RowZ rb m wr acc A := by
 rcases h.row.2 with ⟨rfl, h0⟩ | ⟨g, cap, cur, rfl, hlo, hgg, hn, _, _, _⟩
 · exact ⟨none, 0, by rw [h0], by omega, fun h => by omega⟩
 · refine ⟨some ⟨g, 0, none⟩, cap, rfl, hn, fun h0 => ⟨g, fun i => Fs[i]?.getD .nilIface, rfl, (h.row.lt g rfl).2, fun hk => by have := hm g hk; omega, fun i hi => ?_, fun i hi => ?_⟩⟩
   · obtain ⟨F, h1, h2⟩ := h.rep i hi
     have := World.ownsRow.cells h.row (g := g) rfl i F h1
     have ha : (⟨g, 0, none⟩ : Addr).add i = ⟨g, i, none⟩ := by unfold Addr.add; split <;> simp_all
     rw [ha] at this
     simpa [h1] using this
   · obtain ⟨F, h1, h2⟩ := h.rep i hi
     simpa [h1] using h2.evo (Evo.below h.below)
theorem atoms_any {rb : Nat} {m : Mem} {W : World} (hm : ∀ k, m.mut rb k → k < W.heap.size) {env : PEnv} {g : Value} (h : EnvIn rb m W env g) {ats : List Atm} {Aa : Option Addr} {ca : Nat} (ha : AtomsIn W.heap.size W Aa ats) :
 Calls Tryz.prog 82 #[g, .slice Aa ats.length ca] W (AtomsPost rb m W (atomsP env ats)) := by
 obtain ⟨i0, hinf, hz0, hz1, hz2⟩ := info_parts infoVal
 obtain ⟨pg, rfl⟩ := h.shape
 have h16 := ha.1
 have HA := Lib.hid (fun (j : Nat) (hj : j < ats.length) (V : World) (hV : Below W.heap.size W V) => (show ∃ b o, Aa = some ⟨b, o, none⟩ ∧ V.cell? ⟨b, o + j * 2, none⟩ = some (.bool ats[j].v) ∧ V.cell? ⟨b, o + j * 2 + 1, none⟩ = some (.int .i64 ats[j].n) from by
  rcases ha.2 with rfl | ⟨b, o, rfl, hlt, hc⟩
  · simp at hj
  · have := hc j hj
    simp only [List.getElem?_eq_getElem hj, Option.getD_some] at this
    exact ⟨b, o, rfl, (hV.cell (p := ⟨_, _, none⟩) hlt).trans this.1, (hV.cell (p := ⟨_, _, none⟩) hlt).trans this.2⟩))
 have HC := Lib.hid (fun (a : Atm) (V : World) (hV : Below W.heap.size W V) => atom_any hV h a)
 have HM := Lib.hid hm
 clear ha h hm
 obtain ⟨L, hL⟩ : ∃ L, ats.length = L := ⟨_, rfl⟩
 have HL := Lib.hid hL
 rw [hL] at h16 ⊢
 clear hL
 go_enter Tryz.func82, Tryz.ntmps82
 go_wp2_with fail
 go_loopw [5, 10] (fun rv i wr => ∃ (j : Nat) (acc : List PV) (Fs : List Value), j ≤ L ∧ i = .int .i64 (j : Int) ∧ Hid (acc.length = j) ∧ Hid (FillIn rb m W acc wr rv Fs) ∧ Hid (atomsP env (ats.take j) = some acc)) (fun _ i _ => L + 1 - (intOf i).toNat)
 case atStart => exact ⟨0, [], [], by omega, rfl, Lib.hid rfl, Lib.hid (FillIn.start _ _ _), Lib.hid rfl⟩
 case round =>
  obtain ⟨j, acc, Fs, hj, rfl, HJ, HF, HP⟩ := hrel
  by_cases hlt : j < L
  · have hj0 : (0 : Int) ≤ (j : Int) := by omega
    have hjl : (j : Int) < (L : Int) := by omega
    have hja : j < ats.length := by rw [HL.out]; exact hlt
    obtain ⟨b, o, rfl, c0, c1⟩ := HA.out j hja wr HF.out.below
    have HT := Lib.hid (atomsP_take ats j hja acc HP.out)
    have HC1 := Lib.hid (HC.out ats[j])
    generalize ats[j] = at_ at *
    obtain ⟨av, an⟩ := at_
    obtain ⟨W1, hW1⟩ : ∃ W1, wr.alloc (.cells #[.bool av, .int .i64 an] 25) = W1 := ⟨_, rfl⟩
    have hb1 : Below wr.heap.size wr W1 := by rw [← hW1]; exact (Below.refl _ _).alloc (Nat.le_refl _) _
    have r0 : W1.cell? ⟨wr.heap.size, 0, none⟩ = some (.bool av) := by rw [← hW1, World.cell?_alloc_at _ _ _ _ rfl]; rfl
    have r1 : W1.cell? ⟨wr.heap.size, 1, none⟩ = some (.int .i64 an) := by rw [← hW1, World.cell?_alloc_at _ _ _ _ rfl]; rfl
    have hbW : Below W.heap.size W W1 := HF.out.below.trans (hb1.mono HF.out.below.size)
    have HCA := Lib.hid (HC1.out W1 hbW)
    have HB1 := Lib.hid hb1
    have hml : j + 1 ≤ maxLen := by unfold maxLen; omega
    have HROW := Lib.hid (fun (w' : World) (hw : Below W1.heap.size W1 w') => (show FillIn rb m W acc w' u5 Fs from (HF.out.behind HB1.out).behind hw))
    clear hbW hb1 HC1
    go_wp2_with (first
     | (go_at_call 64; refine HCA.out.mono ?_; rintro en w' (⟨v, T, x, hv, rfl, hrv, hw⟩ | ⟨hv, rfl, hw⟩); rotate_left; exact ⟨rfl, .inr ⟨HT.out.2 hv, rfl, (HF.out.below.trans (HB1.out.mono HF.out.below.size)).trans (hw.mono (Nat.le_trans HF.out.below.size HB1.out.size))⟩⟩)
     | (at_builtin; refine wpList_append_own_at _ rfl _ _ 117 rfl W.heap.size 92 i0 .nilIface 1 16 undVals hinf hz0 hz1 hz2 rfl (by decide) _ _ _ rfl (((HROW.out _ hw).row).alloc _) ⟨w'.heap.size, 0, none⟩ 1 1 [.iface T x] rfl rfl (cell_one_new _ _ _) (by simp [Value.oneCell']) (by rw [HJ.out]; exact hml) (by rw [HJ.out]; omega) (by rw [World.size_alloc]; exact Nat.le_succ_of_le (HROW.out _ hw).below.size) ?_; intro v' w1 hown' hgrow _ hat))
    have hgrow' := hgrow
    change World.grownBy _ w1 u5.ownBlock at hgrow'
    have HM2 := Lib.hid ((HROW.out _ hw).more hrv hown' hgrow')
    have HP2 := Lib.hid (HT.out.1 v hv)
    clear hgrow hgrow' hat hown' hrv hv hw
    go_roundw
    case rel => exact ⟨j + 1, acc ++ [v], _, by omega, by go_num, Lib.hid (by simp [HJ.out]), HM2, HP2⟩
    case measure => simp [intOf]; omega
  · have hjl : ¬ (j : Int) < (L : Int) := by omega
    obtain ⟨A, cap, rfl, hcap, hrow⟩ := HF.out.whole HM.out
    have HR := Lib.hid hrow
    have hje : j = L := by omega
    clear hrow
    have HE := Lib.hid (show AtomsPost rb m W (atomsP env ats) (.returned (.slice A acc.length cap)) wr from .inl ⟨acc, A, cap, by have := HP.out; rw [List.take_of_length_le (by rw [HL.out]; omega)] at this; exact this, rfl, hcap, HR.out, HF.out.below⟩)
    clear hcap
    go_wp2_with fail
    go_ret
    exact HE.out
end Go.Proofs.YtnobggabjpcbfaaGreat
namespace Go.Proofs.YtnobggabjpcbfaaGreat
open Go.RowKit
section
variable {rb B : Nat} {p : FlatP} {inp : List Int} {fuel : Nat} {s : FSt} {m m' : Mem} {W W' : World}
theorem heap_set_self {b : Nat} {cs : Array Value} {T : TypeId} {fr : Nat × Nat} (h : W.heap[b]? = some (.cells cs T fr)) (o : Nat) (v : Value) : (W.setCell ⟨b, o, none⟩ v).heap[b]? = some (.cells (cs.setIfInBounds o v) T fr) := by
 simp [World.setCell, Array.getElem?_modify, h]
theorem heap_set_ne {b k : Nat} (h : k ≠ b) (o : Nat) (v : Value) : (W.setCell ⟨b, o, none⟩ v).heap[k]? = W.heap[k]? := Below.heap_setCell W _ _ k h
theorem Good.addCell (hg : Good rb B p inp fuel s m W) {a : PV} {ga : Value} (ha : RepV rb m W a ga) :
 Good rb B p inp fuel { s with cells := s.cells ++ [a] } { m with ca := m.ca ++ [W.heap.size] } (W.alloc (.cells #[ga] 157)) ∧ Evo rb m { m with ca := m.ca ++ [W.heap.size] } W (W.alloc (.cells #[ga] 157)) ∧
  RepV rb { m with ca := m.ca ++ [W.heap.size] } (W.alloc (.cells #[ga] 157)) (.ref s.cells.length) (.iface 156 (.pointer (some ⟨W.heap.size, 0, none⟩))) := by
 have hk : Evo rb m { m with ca := m.ca ++ [W.heap.size] } W (W.alloc (.cells #[ga] 157)) :=
  (Evo.alloc rb m W _).more (List.prefix_refl _) (List.prefix_append _ _) (fun k h => by
   rcases h with rfl | h | h
   · exact .inl (.inl rfl)
   · exact .inl (.inr (.inl h))
   · rcases List.mem_append.1 h with h | h
     · exact .inl (.inr (.inr h))
     · simp at h; exact .inr (by omega))
 have hgb := hg.below ((Below.refl W.heap.size W).alloc (Nat.le_refl _) (.cells #[ga] 157))
 have hrbl := hg.mutLt (k := rb) (.inl rfl)
 refine ⟨⟨hgb.Bs, hg.rbB, hg.left, hg.fuelB, hg.bnd, hgb.run, hgb.out, hg.falen, hg.fnsEvo hk, ?_, ?_, ?_, ?_, hg.rbo, ?_, ?_⟩, hk, .ref ?_⟩
 · simp [hg.calen]
 · intro i hi
   by_cases h : i < s.cells.length
   · obtain ⟨b, gv, h1, h2, h3⟩ := hg.cells i h
     refine ⟨b, gv, prefix_get hk.ca h1, ?_, ?_⟩
     · exact (((Below.refl W.heap.size W).alloc (Nat.le_refl _) (.cells #[ga] 157)).block b (Array.getElem?_eq_some_iff.1 h2).1).trans h2
     · simpa [List.getElem_append_left h] using h3.evo hk
   · have : i = s.cells.length := by simp at hi; omega
     subst this
     refine ⟨W.heap.size, ga, ?_, World.alloc_heap_new W _, ?_⟩
     · show (m.ca ++ [W.heap.size])[s.cells.length]? = _
       rw [← hg.calen, List.getElem?_append_right (Nat.le_refl _)]; simp
     · simpa using ha.evo hk
 · show (m.ca ++ [W.heap.size]).Nodup
   rw [List.nodup_append]
   exact ⟨hg.nodup, by simp, fun x hx y hy => by have := hg.mutLt (k := x) (.inr (.inr hx)); simp at hy; omega⟩
 · intro h
   rcases List.mem_append.1 h with h | h
   · exact hg.rbca h
   · simp at h; omega
 · intro b h
   rcases List.mem_append.1 h with h | h
   · exact hg.oca b h
   · simp at h; subst h
     intro ho
     exact absurd (hg.out.lt _ ho).2 (Nat.lt_irrefl _)
 · intro b h
   rcases List.mem_append.1 h with h | h
   · exact hg.caB b h
   · simp at h; subst h; exact hg.Bs
 · show (m.ca ++ [W.heap.size])[s.cells.length]? = _
   rw [← hg.calen, List.getElem?_append_right (Nat.le_refl _)]; simp
theorem Good.setRef (hg : Good rb B p inp fuel s m W) {i b : Nat} (hb : m.ca[i]? = some b) {a : PV} {ga : Value} (ha : RepV rb m W a ga) :
 Good rb B p inp fuel { s with cells := s.cells.set i a } m (W.setCell ⟨b, 0, none⟩ ga) ∧ Evo rb m m W (W.setCell ⟨b, 0, none⟩ ga) := by
 have hbm : b ∈ m.ca := List.mem_of_getElem? hb
 have hk : Evo rb m m W (W.setCell ⟨b, 0, none⟩ ga) := Evo.setCell W 0 ga (.inr (.inr hbm))
 have hst := hg.stay hk
 have hne : ∀ k, k ≠ b → (W.setCell ⟨b, 0, none⟩ ga).heap[k]? = W.heap[k]? := fun k h => Below.heap_setCell W _ _ k h
 obtain ⟨f0, f1, f2, f3, Ai, ci, hr, hfl, hi, hci⟩ := hg.run
 refine ⟨⟨by simpa [World.setCell] using hg.Bs, hg.rbB, hg.left, hg.fuelB, hg.bnd, ⟨f0, f1, f2, f3, Ai, ci, (hne rb (fun e => hg.rbca (e ▸ hbm))).trans hr, hfl.kept hst, hi.below hst, hci⟩, ?_, hg.falen, hg.fnsEvo hk, by simp [hg.calen], ?_, hg.nodup, hg.rbca, hg.rbo, hg.oca, hg.caB⟩, hk⟩
 · refine hg.out.kept (row := some b) ⟨rfl, rfl, rfl, by simp [World.setCell], fun i hi h => hne i (fun e => h (by rw [e]))⟩ ?_
   exact .inr (hg.oca b hbm)
 · intro j hj
   have hj' : j < s.cells.length := by simpa using hj
   obtain ⟨b', gv, h1, h2, h3⟩ := hg.cells j hj'
   by_cases hji : j = i
   · subst hji
     rw [hb] at h1; cases h1
     refine ⟨b, ga, hb, ?_, by simpa using ha.evo hk⟩
     exact heap_set_self h2 0 ga
   · refine ⟨b', gv, h1, (hne b' ?_).trans h2, ?_⟩
     · rintro rfl
       have hjl : j < m.ca.length := (List.getElem?_eq_some_iff.1 h1).1
       have hil : i < m.ca.length := (List.getElem?_eq_some_iff.1 hb).1
       have hp := List.pairwise_iff_getElem.1 hg.nodup
       rw [List.getElem?_eq_getElem hjl] at h1
       rw [List.getElem?_eq_getElem hil] at hb
       simp only [Option.some.injEq] at h1 hb
       rcases Nat.lt_or_gt_of_ne hji with h | h
       · exact hp j i hjl hil h (h1.trans hb.symm)
       · exact hp i j hil hjl h (hb.trans h1.symm)
     · have : (s.cells.set i a)[j] = s.cells[j] := by simp [List.getElem_set, Ne.symm hji]
       simpa [this] using h3.evo hk
theorem Good.neRb (hg : Good rb B p inp fuel s m W) {b : Nat} (hb : b ∈ m.ca) : b ≠ rb := fun e => hg.rbca (e ▸ hb)
theorem Good.turn {s' : FSt} (hg : Good rb B p inp fuel s m W) (hk : Evo rb m m' W W') (hmade : s'.made = s.made) (hcells : s'.cells = s.cells) (hfa : m'.fa = m.fa) (hca : m'.ca = m.ca) (hcb : ∀ b ∈ m.ca, W'.heap[b]? = W.heap[b]?)
 (hleft : s'.left ≤ fuel) (hbnd : s'.out.length + s'.left ≤ fuel)
 (hrun : ∃ f0 f1 f2 f3 Ai ci, W'.heap[rb]? = some (.cells #[f0, f1, f2, f3, .slice Ai (inp.drop s'.asked).length ci, .int .i64 fuel, .int .i64 0, .int .i64 0, m'.vo, .int .i64 ((fuel : Int) - s'.left)] 69 (0, 0)) ∧ FlatIn B W' p #[f0, f1, f2, f3] ∧ IntsIn B W' Ai (inp.drop s'.asked) ∧ (inp.drop s'.asked).length ≤ ci)
 (hout : W'.ownsRow B 3 1 m'.vo s'.out.length (s'.out.map (Value.int .i64))) (hrbo : m'.vo.ownBlock ≠ some rb) (hoca : ∀ b ∈ m.ca, m'.vo.ownBlock ≠ some b) : Good rb B p inp fuel s' m' W' := by
 refine ⟨Nat.le_trans hg.Bs hk.size, hg.rbB, hleft, hg.fuelB, hbnd, hrun, hout, by rw [hfa, hmade]; exact hg.falen, ?_, by rw [hca, hcells]; exact hg.calen, ?_, by rw [hca]; exact hg.nodup, by rw [hca]; exact hg.rbca, hrbo, by rw [hca]; exact hoca, by rw [hca]; exact hg.caB⟩
 · rw [hmade]; exact hg.fnsEvo hk
 · rw [hcells]
   intro i hi
   obtain ⟨b, gv, h1, h2, h3⟩ := hg.cells i hi
   exact ⟨b, gv, prefix_get hk.ca h1, (hcb b (List.mem_of_getElem? h1)).trans h2, h3.evo hk⟩
theorem Good.step (hg : Good rb B p inp fuel s m W) (hl : 0 < s.left) : Good rb B p inp fuel { s with left := s.left - 1 } m (W.setCell ⟨rb, 9, none⟩ (.int .i64 ((fuel : Int) - s.left + 1))) ∧ Evo rb m m W (W.setCell ⟨rb, 9, none⟩ (.int .i64 ((fuel : Int) - s.left + 1))) := by
 have hk : Evo rb m m W (W.setCell ⟨rb, 9, none⟩ (.int .i64 ((fuel : Int) - s.left + 1))) := Evo.setCell W 9 _ (.inl rfl)
 obtain ⟨f0, f1, f2, f3, Ai, ci, hr, hfl, hi, hci⟩ := hg.run
 refine ⟨hg.turn hk rfl rfl rfl rfl (fun b hb => heap_set_ne (hg.neRb hb) _ _) (by have := hg.left; show s.left - 1 ≤ fuel; omega) (by have := hg.bnd; show s.out.length + (s.left - 1) ≤ fuel; omega) ⟨f0, f1, f2, f3, Ai, ci, ?_, hfl.kept (hg.stay hk), hi.below (hg.stay hk), hci⟩ ?_ hg.rbo hg.oca, hk⟩
 · rw [heap_set_self hr]
   have : ((s.left - 1 : Nat) : Int) = s.left - 1 := by omega
   simp [this]
   omega
 · exact hg.out.kept (row := some rb) ⟨rfl, rfl, rfl, by simp [World.setCell], fun i hi h => heap_set_ne (fun e => h (by rw [e])) _ _⟩ (.inr hg.rbo)
theorem Good.read (hg : Good rb B p inp fuel s m W) {Ai : Option Addr} {ci : Nat} (hi : IntsIn B W Ai (inp.drop (s.asked + 1))) (hci : (inp.drop (s.asked + 1)).length ≤ ci) :
 Good rb B p inp fuel { s with asked := s.asked + 1 } m (W.setCell ⟨rb, 4, none⟩ (.slice Ai (inp.drop (s.asked + 1)).length ci)) ∧ Evo rb m m W (W.setCell ⟨rb, 4, none⟩ (.slice Ai (inp.drop (s.asked + 1)).length ci)) := by
 have hk : Evo rb m m W (W.setCell ⟨rb, 4, none⟩ (.slice Ai (inp.drop (s.asked + 1)).length ci)) := Evo.setCell W 4 _ (.inl rfl)
 obtain ⟨f0, f1, f2, f3, Ai', ci', hr, hfl, hi', hci'⟩ := hg.run
 refine ⟨hg.turn hk rfl rfl rfl rfl (fun b hb => heap_set_ne (hg.neRb hb) _ _) hg.left hg.bnd ⟨f0, f1, f2, f3, Ai, ci, ?_, hfl.kept (hg.stay hk), hi.below (hg.stay hk), hci⟩ ?_ hg.rbo hg.oca, hk⟩
 · rw [heap_set_self hr]
   simp
 · exact hg.out.kept (row := some rb) ⟨rfl, rfl, rfl, by simp [World.setCell], fun i hi h => heap_set_ne (fun e => h (by rw [e])) _ _⟩ (.inr hg.rbo)
theorem Good.past (hg : Good rb B p inp fuel s m W) (hp : inp.length ≤ s.asked) : Good rb B p inp fuel { s with asked := s.asked + 1 } m W := by
 obtain ⟨f0, f1, f2, f3, Ai, ci, hr, hfl, hi, hci⟩ := hg.run
 have h1 : inp.drop s.asked = [] := List.drop_eq_nil_iff.2 hp
 have h2 : inp.drop (s.asked + 1) = [] := List.drop_eq_nil_iff.2 (by omega)
 refine hg.turn (Evo.refl _ _ _) rfl rfl rfl rfl (fun _ _ => rfl) hg.left hg.bnd ⟨f0, f1, f2, f3, Ai, ci, ?_, hfl, ?_, ?_⟩ hg.out hg.rbo hg.oca
 · rw [hr, h1, h2]
 · rw [h2, ← h1]; exact hi
 · rw [h2]; simp
theorem Good.print (hg : Good rb B p inp fuel s m W) (hs : s.out.length + s.left < fuel) {W2 w1 : World} (hb2 : Below W.heap.size W W2) {n : Int} {v' : Value} (h1 : w1.ownsRow B 3 1 v' (s.out.length + 1) (s.out.map (Value.int .i64) ++ [.int .i64 n]))
 (h2 : W2.grownBy w1 m.vo.ownBlock) (hat : v'.ownBlock = m.vo.ownBlock ∨ v'.ownBlock = some W2.heap.size) :
 Good rb B p inp fuel { s with out := s.out ++ [n] } { m with vo := v' } (w1.setCell ⟨rb, 8, none⟩ v') ∧ Evo rb m { m with vo := v' } W (w1.setCell ⟨rb, 8, none⟩ v') := by
 have hsz := hb2.size
 have hrbl := hg.mutLt (k := rb) (.inl rfl)
 have hk : Evo rb m { m with vo := v' } W (w1.setCell ⟨rb, 8, none⟩ v') := by
  refine ⟨h2.os.trans hb2.os, h2.tape.trans hb2.tape, h2.output.trans hb2.output, ?_, ?_, ?_, List.prefix_refl _, List.prefix_refl _⟩
  · have := h2.size; simp [World.setCell]; omega
  · intro k hk hm
    rw [heap_set_ne (fun e => hm (.inl e))]
    exact (h2.block k (by omega) (fun e => hm (.inr (.inl e.symm)))).trans (hb2.block k hk)
  · intro k hk
    rcases hk with rfl | hk | hk
    · exact .inl (.inl rfl)
    · rcases hat with h | h
      · exact .inl (.inr (.inl (h ▸ hk)))
      · have := h.symm.trans hk; simp at this; exact .inr (by omega)
    · exact .inl (.inr (.inr hk))
 have hrb' : v'.ownBlock ≠ some rb := by
  rcases hat with h | h
  · rw [h]; exact hg.rbo
  · rw [h]; simp; omega
 obtain ⟨f0, f1, f2, f3, Ai, ci, hr, hfl, hi, hci⟩ := hg.run
 refine ⟨hg.turn hk rfl rfl rfl rfl ?_ hg.left ?_ ⟨f0, f1, f2, f3, Ai, ci, ?_, hfl.kept (hg.stay hk), hi.below (hg.stay hk), hci⟩ ?_ hrb' ?_, hk⟩
 · intro b hb
   have hbl := hg.mutLt (k := b) (.inr (.inr hb))
   rw [heap_set_ne (hg.neRb hb)]
   exact (h2.block b (by omega) (fun e => hg.oca b hb e.symm)).trans (hb2.block b hbl)
 · show (s.out ++ [n]).length + s.left ≤ fuel
   simp; omega
 · have : w1.heap[rb]? = _ := (h2.block rb (by omega) (fun e => hg.rbo e.symm)).trans ((hb2.block rb hrbl).trans hr)
   rw [heap_set_self this]
   simp
 · have := h1.kept (w' := w1.setCell ⟨rb, 8, none⟩ v') (row := some rb) ⟨rfl, rfl, rfl, by simp [World.setCell], fun i hi h => heap_set_ne (fun e => h (by rw [e])) _ _⟩ (.inr hrb')
   simpa using this
 · intro b hb
   have hbl := hg.mutLt (k := b) (.inr (.inr hb))
   rcases hat with h | h
   · rw [h]; exact hg.oca b hb
   · rw [h]; simp; omega
theorem Good.addClosure (hg : Good rb B p inp fuel s m W) {f : Int} (hf0 : 0 ≤ f) (hf1 : f < p.funs.length) {l : List PV} {A : Option Addr} {cap : Nat} (hc : l.length ≤ cap) (h255 : l.length ≤ 255) (hr : RowV rb m W l A) :
 Good rb B p inp fuel { s with made := s.made ++ [(f, l)] } { m with fa := m.fa ++ [W.heap.size] } (W.alloc (.cells #[.int .i64 f, .slice A l.length cap] 147)) ∧ Evo rb m { m with fa := m.fa ++ [W.heap.size] } W (W.alloc (.cells #[.int .i64 f, .slice A l.length cap] 147)) ∧
  RepV rb { m with fa := m.fa ++ [W.heap.size] } (W.alloc (.cells #[.int .i64 f, .slice A l.length cap] 147)) (.fn s.made.length) (.iface 145 (.pointer (some ⟨W.heap.size, 0, none⟩))) := by
 have hk : Evo rb m { m with fa := m.fa ++ [W.heap.size] } W (W.alloc (.cells #[.int .i64 f, .slice A l.length cap] 147)) :=
  (Evo.alloc rb m W _).more (List.prefix_append _ _) (List.prefix_refl _) (fun k h => .inl h)
 have hgb := hg.below ((Below.refl W.heap.size W).alloc (Nat.le_refl _) (.cells #[.int .i64 f, .slice A l.length cap] 147))
 have hat : (m.fa ++ [W.heap.size])[s.made.length]? = some W.heap.size := by rw [← hg.falen, List.getElem?_append_right (Nat.le_refl _)]; simp
 refine ⟨⟨hgb.Bs, hg.rbB, hg.left, hg.fuelB, hg.bnd, hgb.run, hgb.out, by simp [hg.falen], ?_, hg.calen, ?_, hg.nodup, hg.rbca, hg.rbo, hg.oca, hg.caB⟩, hk, .fn hat⟩
 · intro i hi
   by_cases h : i < s.made.length
   · simp only [List.getElem_append_left h]
     exact hg.fnsEvo hk i h
   · have : i = s.made.length := by simp at hi; omega
     subst this
     have hget : (s.made ++ [(f, l)])[s.made.length]'(by simp) = (f, l) := by simp
     simp only [hget]
     exact ⟨W.heap.size, A, cap, hat, ⟨World.alloc_heap_new W _, fun hm => by have := hg.mutLt (k := W.heap.size) hm; omega⟩, hc, h255, hr.evo hk, hf0, hf1⟩
 · intro i hi
   obtain ⟨b, gv, h1, h2, h3⟩ := hg.cells i hi
   exact ⟨b, gv, h1, (((Below.refl W.heap.size W).alloc (Nat.le_refl _) (.cells #[.int .i64 f, .slice A l.length cap] 147)).block b (Array.getElem?_eq_some_iff.1 h2).1).trans h2, h3.evo hk⟩
end
section
variable {P : Program} (w : World)
theorem wp_append_at {o : Oper} {a : Act} {K : Act → World → Prop} {Q : Exit → Act → World → Prop} (s x : Operand) (t : TypeId)
 (ho : o.op = .call { callee := .builtin .append, args := #[s, x], argTypes := #[t, t] })
 (base : Nat) (e : TypeId) (i : TypeInfo) (z : Value) (size bytes : Nat) (ht : P.underlying t = some (.slice e)) (hi : P.info? e = some i) (hz : i.zero = some z)
 (hsize : i.size = size) (hby : i.bytes = bytes) (hzs : z.cells.size = size) (hsz : 0 < size)
 (v : Value) (n : Nat) (xs : List Value) (hs : a.eval s = v) (hown : w.ownsRow base e size v n xs)
 (ad : Addr) (m c : Nat) (news : List Value) (hx : a.eval x = .slice (some ad) m c) (hl : news.length = m * size) (hnews : ∀ j u, news[j]? = some u → w.cell? (ad.add j) = some u) (h1 : ∀ u ∈ news, u.oneCell' = true)
 (h63 : n + m ≤ maxLen) (hbytes : (n + m) * bytes ≤ 140737488355328) (hbase : base ≤ w.heap.size)
 (h : ∀ v' w', w'.ownsRow base e size v' (n + m) (xs ++ news) → w.grownBy w' v.ownBlock → (v'.ownBlock = v.ownBlock ∨ v'.ownBlock = some w.heap.size) → K (a.put o.dst v') w') : o.wp P a w K Q := by
 obtain ⟨v', w', hr, h2, h3, _, h4⟩ := run_append_own_at (P := P) w base t o.type e i z size bytes ht hi hz hsize hby hzs hsz v n xs hown ad m c news hl hnews h1 h63 hbytes hbase
 unfold Oper.wp execOp
 simp only [ho, resolve, invoke, builtin, Sem.run_bind, Sem.run_pure, Result.andThen_ok, List.map_toArray, List.map_cons, List.map_nil, hs, hx, hr]
 exact h v' w' h2 h3 h4
end
end Go.Proofs.YtnobggabjpcbfaaGreat
namespace Go.Proofs.YtnobggabjpcbfaaGreat
open Go.RowKit
def Thrown (T : TypeId) (x : Value) (ch : List PanicEntry) : Prop := ∃ older : List PanicEntry, ch = { v := .iface T x, recovered := false } :: older ∧ ∀ p ∈ older, p.goexit = false
theorem thrown_one (T : TypeId) (x : Value) : Thrown T x [{ v := .iface T x, recovered := false }] := ⟨[], rfl, by simp⟩
inductive EvPost (rb B : Nat) (p : FlatP) (inp : List Int) (fuel : Nat) (m : Mem) (W : World) : FOut → Ending → World → Prop
 | val {v : PV} {s : FSt} {m' : Mem} {W' : World} {g : Value} (hk : Evo rb m m' W W') (hg : Good rb B p inp fuel s m' W') (hv : RepV rb m' W' v g) : EvPost rb B p inp fuel m W (.val v, s) (.returned g) W'
 | raised {v : PV} {s : FSt} {m' : Mem} {W' : World} {g : Value} {ch : List PanicEntry} (hk : Evo rb m m' W W') (hg : Good rb B p inp fuel s m' W') (hv : RepV rb m' W' v g) (hkey : ∃ k, keyOf v = some k) (hth : Thrown 94 (.agg #[g]) ch) : EvPost rb B p inp fuel m W (.raised v, s) (.panicked ch) W'
 | stuck {s : FSt} {m' : Mem} {W' : World} {ch : List PanicEntry} (hk : Evo rb m m' W W') (hg : Good rb B p inp fuel s m' W') (hth : Thrown 90 (.agg #[.int .i64 4]) ch) : EvPost rb B p inp fuel m W (.stuck, s) (.panicked ch) W'
 | cut {s : FSt} {m' : Mem} {W' : World} {ch : List PanicEntry} (hk : Evo rb m m' W W') (hg : Good rb B p inp fuel s m' W') (hth : Thrown 90 (.agg #[.int .i64 3]) ch) : EvPost rb B p inp fuel m W (.cut, s) (.panicked ch) W'
theorem EvPost.from_ {rb B : Nat} {p : FlatP} {inp : List Int} {fuel : Nat} {m m' : Mem} {W W' : World} (hk : Evo rb m m' W W') {o : FOut} {e : Ending} {V : World} (h : EvPost rb B p inp fuel m' W' o e V) : EvPost rb B p inp fuel m W o e V := by
 cases h with
 | val h1 h2 h3 => exact .val (hk.trans h1) h2 h3
 | raised h1 h2 h3 h4 h5 => exact .raised (hk.trans h1) h2 h3 h4 h5
 | stuck h1 h2 h3 => exact .stuck (hk.trans h1) h2 h3
 | cut h1 h2 h3 => exact .cut (hk.trans h1) h2 h3
theorem EvPost.ends {rb B : Nat} {p : FlatP} {inp : List Int} {fuel : Nat} {m : Mem} {W : World} {o : FOut} {e : Ending} {V : World} (h : EvPost rb B p inp fuel m W o e V) :
 (∃ g, e = .returned g ∧ EvPost rb B p inp fuel m W o (.returned g) V) ∨ (∃ ch, e = .panicked ch ∧ EvPost rb B p inp fuel m W o (.panicked ch) V) := by
 cases h with
 | val h1 h2 h3 => exact .inl ⟨_, rfl, .val h1 h2 h3⟩
 | raised h1 h2 h3 h4 h5 => exact .inr ⟨_, rfl, .raised h1 h2 h3 h4 h5⟩
 | stuck h1 h2 h3 => exact .inr ⟨_, rfl, .stuck h1 h2 h3⟩
 | cut h1 h2 h3 => exact .inr ⟨_, rfl, .cut h1 h2 h3⟩
theorem EvPost.evo {rb B : Nat} {p : FlatP} {inp : List Int} {fuel : Nat} {m : Mem} {W : World} {o : FOut} {e : Ending} {V : World} (h : EvPost rb B p inp fuel m W o e V) : ∃ m', Evo rb m m' W V := by
 cases h with
 | val h1 h2 h3 => exact ⟨_, h1⟩
 | raised h1 h2 h3 h4 h5 => exact ⟨_, h1⟩
 | stuck h1 h2 h3 => exact ⟨_, h1⟩
 | cut h1 h2 h3 => exact ⟨_, h1⟩
def BodyOk (rb B : Nat) (p : FlatP) (inp : List Int) (fuel n : Nat) : Prop :=
 ∀ (a : Anf) (e : PEnv) (s : FSt) (m : Mem) (W : World) (ga : Array Value) (ge : Value), BodyIn B W a ga → WfA p.funs.length a → EnvIn rb m W e ge → Good rb B p inp fuel s m W → s.left < n →
  Calls Tryz.prog 40 #[.pointer (some ⟨rb, 0, none⟩), .agg ga, ge] W (EvPost rb B p inp fuel m W (evF p.funs inp n a e s))
section
variable {rb B : Nat} {p : FlatP} {inp : List Int} {fuel n : Nat} {s : FSt} {m : Mem} {W : World}
def StepPost (rb B : Nat) (p : FlatP) (inp : List Int) (fuel : Nat) (s : FSt) (m : Mem) (W : World) (e : Ending) (W' : World) : Prop :=
 (0 < s.left ∧ e = .returned (.tuple #[]) ∧ Good rb B p inp fuel { s with left := s.left - 1 } m W' ∧ Evo rb m m W W') ∨ (s.left = 0 ∧ e = .panicked (stopV 3) ∧ Good rb B p inp fuel s m W' ∧ Evo rb m m W W')
theorem step_any (hg : Good rb B p inp fuel s m W) : Calls Tryz.prog 61 #[.pointer (some ⟨rb, 0, none⟩)] W (StepPost rb B p inp fuel s m W) := by
 obtain ⟨f0, f1, f2, f3, Ai, ci, hr, hfl, hi, hci⟩ := hg.run
 have hfu := hg.fuelB
 have hle := hg.left
 obtain ⟨st, hst⟩ : ∃ st : Int, st = (fuel : Int) - s.left := ⟨_, rfl⟩
 have hst0 : 0 ≤ st := by omega
 have hst2 : st ≤ 1000000 := by omega
 have c5 : W.cell? ⟨rb, 5, none⟩ = some (.int .i64 fuel) := by simp [World.cell?, hr]
 have c9 : W.cell? ⟨rb, 9, none⟩ = some (.int .i64 st) := by simp [World.cell?, hr, hst]
 have z9 : W.frozen? ⟨rb, 9, none⟩ = false := by simp [World.frozen?, hr]
 have hw : IntKind.i64.wrap (st + 1) = st + 1 := by rw [IntKind.wrap_i64]; omega
 by_cases h0 : s.left = 0
 · have hlt : ¬ st < (fuel : Int) := by omega
   have hge : (fuel : Int) ≤ st := by omega
   have HP := Lib.hid (fun (nq : Nat) => (show StepPost rb B p inp fuel s m W (.panicked (stopV 3)) (W.drewN nq) from
    .inr ⟨h0, rfl, hg.below (below_drewN (Below.refl _ _) _), Evo.below (below_drewN (Below.refl _ _) _)⟩))
   clear hg hr hfl hi hci h0 hst hle
   go_enter Tryz.func61, Tryz.ntmps61
   go_wp2_with fail
   go_quiet (fail)
   go_wp2_with fail
   exact ⟨rfl, HP.out _⟩
 · have hlt : st < (fuel : Int) := by omega
   have hge : ¬ (fuel : Int) ≤ st := by omega
   have HP := Lib.hid (fun (nq : Nat) => (show StepPost rb B p inp fuel s m W (.returned (.tuple #[])) ((W.drewN nq).setCell ⟨rb, 9, none⟩ (.int .i64 (st + 1))) from by
    obtain ⟨q1, q2⟩ := (hg.below (below_drewN (Below.refl _ _) nq)).step (by omega)
    rw [← hst] at q1 q2
    exact .inl ⟨by omega, rfl, q1, (Evo.below (below_drewN (Below.refl _ _) nq)).trans q2⟩))
   clear hg hr hfl hi hci h0 hst hle
   go_enter Tryz.func61, Tryz.ntmps61
   go_wp2_with fail
   go_quiet (fail)
   go_wp2_with fail
   go_end0
   exact HP.out _
end
end Go.Proofs.YtnobggabjpcbfaaGreat
