/-
 1 texts of this seat in one: H15.
-/
import Derived.Test.YtnobggabjpcbfaaGreatQI17
set_option maxRecDepth 100000
set_option maxHeartbeats 16000000
set_option linter.unusedVariables false
set_option linter.unusedSimpArgs false
namespace Go.Proofs.YtnobggabjpcbfaaGreat
open Go.RowKit
section
variable {rb B : Nat} {p : FlatP} {inp : List Int} {fuel n : Nat} {s : FSt} {m : Mem} {W : World}
theorem RowZ.one {l : List PV} {A : Option Addr} (h : RowZ rb m W l A) (hl : l.length = 1) : ∃ a g T x, l = [a] ∧ A = some ⟨g, 0, none⟩ ∧ g < W.heap.size ∧ ¬ m.mut rb g ∧ W.cell? ⟨g, 0, none⟩ = some (.iface T x) ∧ RepV rb m W a (.iface T x) := by
 match l, hl with
 | [a], _ =>
  obtain ⟨g, F, h1, h2, h3, h4, h5⟩ := h (by simp)
  have hr := h5 0 (by simp)
  obtain ⟨T, x, hF⟩ := hr.shape
  rw [hF] at hr
  exact ⟨a, g, T, x, rfl, h1, h2, h3, by rw [h4 0 (by simp), hF], hr⟩
theorem RowZ.two {l : List PV} {A : Option Addr} (h : RowZ rb m W l A) (hl : l.length = 2) : ∃ a b g T x U y, l = [a, b] ∧ A = some ⟨g, 0, none⟩ ∧ g < W.heap.size ∧ ¬ m.mut rb g ∧ W.cell? ⟨g, 0, none⟩ = some (.iface T x) ∧ W.cell? ⟨g, 1, none⟩ = some (.iface U y) ∧ RepV rb m W a (.iface T x) ∧ RepV rb m W b (.iface U y) := by
 match l, hl with
 | [a, b], _ =>
  obtain ⟨g, F, h1, h2, h3, h4, h5⟩ := h (by simp)
  have hr := h5 0 (by simp)
  have hr1 := h5 1 (by simp)
  obtain ⟨T, x, hF⟩ := hr.shape
  obtain ⟨U, y, hF1⟩ := hr1.shape
  rw [hF] at hr
  rw [hF1] at hr1
  exact ⟨a, b, g, T, x, U, y, rfl, h1, h2, h3, by rw [h4 0 (by simp), hF], by rw [h4 1 (by simp), hF1], hr, hr1⟩
def sideF (p : FlatP) (inp : List Int) (n : Nat) (k nn : Int) (ats : List Atm) (ks : List Int) (bl : List Anf) (e : PEnv) (s : FSt) : FOut :=
 match atomsP e ats with
 | some l => rhsF p.funs inp (evF p.funs inp n) k nn l ks bl e s
 | none => (.stuck, s)
theorem sideF_some {k nn : Int} {ats : List Atm} {ks : List Int} {bl : List Anf} {e : PEnv} {l : List PV} (h : atomsP e ats = some l) : sideF p inp n k nn ats ks bl e s = rhsF p.funs inp (evF p.funs inp n) k nn l ks bl e s := by unfold sideF; rw [h]
theorem sideF_none {k nn : Int} {ats : List Atm} {ks : List Int} {bl : List Anf} {e : PEnv} (h : atomsP e ats = none) : sideF p inp n k nn ats ks bl e s = (.stuck, s) := by unfold sideF; rw [h]
theorem side_atom (hg : Good rb B p inp fuel s m W) {ats : List Atm} {ks : List Int} {bl : List Anf} {Aa Ak Al : Option Addr} {ca ck cb : Nat} {e : PEnv} {ge : Value} (he : EnvIn rb m W e ge) (ha : AtomsIn W.heap.size W Aa ats) (nn : Int) (h1 : ats.length = 1):
 Calls Tryz.prog 63 #[.pointer (some ⟨rb, 0, none⟩), .agg #[.int .i64 1, .int .i64 nn, .slice Aa ats.length ca, .slice Ak ks.length ck, .slice Al bl.length cb], ge] W (EvPost rb B p inp fuel m W (sideF p inp n 1 nn ats ks bl e s)) := by
 obtain ⟨pk, rfl⟩ := he.shape
 obtain ⟨W0, hW0⟩ : ∃ W0, W.alloc (.cells #[.int .i64 1, .int .i64 nn, .slice Aa ats.length ca, .slice Ak ks.length ck, .slice Al bl.length cb] 60) = W0 := ⟨_, rfl⟩
 have hb0 : Below W.heap.size W W0 := by rw [← hW0]; exact (Below.refl _ _).alloc (Nat.le_refl _) _
 have hs0 : W.heap.size < W0.heap.size := by rw [← hW0]; simp
 have c0 : W0.cell? ⟨W.heap.size, 0, none⟩ = some (.int .i64 1) := by rw [← hW0, World.cell?_alloc_at _ _ _ _ rfl]; rfl
 have c1 : W0.cell? ⟨W.heap.size, 1, none⟩ = some (.int .i64 nn) := by rw [← hW0, World.cell?_alloc_at _ _ _ _ rfl]; rfl
 have c2 : W0.cell? ⟨W.heap.size, 2, none⟩ = some (.slice Aa ats.length ca) := by rw [← hW0, World.cell?_alloc_at _ _ _ _ rfl]; rfl
 have c3 : W0.cell? ⟨W.heap.size, 3, none⟩ = some (.slice Ak ks.length ck) := by rw [← hW0, World.cell?_alloc_at _ _ _ _ rfl]; rfl
 have c4 : W0.cell? ⟨W.heap.size, 4, none⟩ = some (.slice Al bl.length cb) := by rw [← hW0, World.cell?_alloc_at _ _ _ _ rfl]; rfl
 have HR := Lib.hid (fun (V : World) (hV : Below W0.heap.size W0 V) => (show V.cell? ⟨W.heap.size, 0, none⟩ = some (.int .i64 1) ∧ V.cell? ⟨W.heap.size, 1, none⟩ = some (.int .i64 nn) ∧ V.cell? ⟨W.heap.size, 3, none⟩ = some (.slice Ak ks.length ck) ∧ V.cell? ⟨W.heap.size, 4, none⟩ = some (.slice Al bl.length cb) from
  ⟨(hV.cell (p := ⟨W.heap.size, 0, none⟩) hs0).trans c0, (hV.cell (p := ⟨W.heap.size, 1, none⟩) hs0).trans c1, (hV.cell (p := ⟨W.heap.size, 3, none⟩) hs0).trans c3, (hV.cell (p := ⟨W.heap.size, 4, none⟩) hs0).trans c4⟩))
 have hE0 : Evo rb m m W W0 := Evo.below hb0
 have HA := Lib.hid (show Calls Tryz.prog 82 #[.pointer pk, .slice Aa ats.length ca] W0 (AtomsPost rb m W0 (atomsP e ats)) from
  atoms_any (fun k hk => Nat.lt_of_lt_of_le (hg.mutLt hk) (Nat.le_of_lt hs0)) (he.evo hE0) ((ha.below hb0).mono (Nat.le_of_lt hs0)))
 have HST := Lib.hid (fun (V : World) (hV : Below W0.heap.size W0 V) (ho : atomsP e ats = none) => (show EvPost rb B p inp fuel m W (sideF p inp n 1 nn ats ks bl e s) (.panicked (stopV 4)) V from by
  rw [sideF_none ho]
  have hb : Below W.heap.size W V := hb0.trans (hV.mono (Nat.le_of_lt hs0))
  exact .stuck (Evo.below hb) (hg.below hb) (thrown_one _ _)))
 have HW := Lib.hid (fun (V : World) (hV : Below W0.heap.size W0 V) => (show Below W.heap.size W V from hb0.trans (hV.mono (Nat.le_of_lt hs0))))
 have HL := Lib.hid (fun (l : List PV) (ho : atomsP e ats = some l) => atomsP_len ats l ho)
 have HE := Lib.hid (fun (V : World) (l : List PV) (A : Option Addr) (hV : Below W.heap.size W V) (ho : sideF p inp n 1 nn ats ks bl e s = rhsF p.funs inp (evF p.funs inp n) 1 nn l ks bl e s) (hr : RowZ rb m V l A) (hl : l.length = 1) => (show ∃ g T x, A = some ⟨g, 0, none⟩ ∧ V.cell? ⟨g, 0, none⟩ = some (.iface T x) ∧ EvPost rb B p inp fuel m W (sideF p inp n 1 nn ats ks bl e s) (.returned (.iface T x)) V from by
  obtain ⟨a, g, T, x, rfl, h2, h3, h4, h5, h6⟩ := hr.one hl
  refine ⟨g, T, x, h2, h5, ?_⟩
  rw [ho]
  exact .val (Evo.below hV) (hg.below hV) h6))
 have h1' := Lib.hid h1
 obtain ⟨out, hout⟩ : ∃ o, sideF p inp n 1 nn ats ks bl e s = o := ⟨_, rfl⟩
 rw [hout] at HE
 rw [hout] at HST ⊢
 have HO := Lib.hid hout
 clear hout hE0 hs0 hb0 c0 c1 c3 c4 ha hg he h1
 go_enter Tryz.func63, Tryz.ntmps63
 go_wp2_with fail
 refine HA.out.mono ?_
 rintro en w' (⟨l, A, cap, hv, rfl, hlc, hrow, hw⟩ | ⟨hv, rfl, hw⟩)
 rotate_left
 · exact ⟨rfl, HST.out _ hw hv⟩
 have hll := HL.out l hv
 have ho := HO.out.symm.trans (sideF_some hv)
 obtain ⟨d0, d1, d3, d4⟩ := HR.out w' hw
 have HWW := Lib.hid (HW.out w' hw)
 clear HA HST HR HL HW HO hv hw hW0 c2
 obtain ⟨g, T, x, rfl, q0, hq⟩ := HE.out w' l A HWW.out ho hrow (by rw [hll, h1'.out])
 have hl1 : l.length = 1 := by rw [hll, h1'.out]
 rw [hl1] at hlc ⊢
 have HQ := Lib.hid hq
 clear hrow hq ho hll hl1 HE HWW
 go_wp2_with fail
 go_ret
 exact HQ.out
theorem side_block (hg : Good rb B p inp fuel s m W) {ats : List Atm} {ks : List Int} {bl : List Anf} {Aa Ak Al : Option Addr} {ca ck cb : Nat} {e : PEnv} {ge : Value} (he : EnvIn rb m W e ge) (ha : AtomsIn W.heap.size W Aa ats) (nn : Int) (h1 : 1 ≤ ats.length ∧ ats.length ≤ 8):
 Calls Tryz.prog 63 #[.pointer (some ⟨rb, 0, none⟩), .agg #[.int .i64 3, .int .i64 nn, .slice Aa ats.length ca, .slice Ak ks.length ck, .slice Al bl.length cb], ge] W (EvPost rb B p inp fuel m W (sideF p inp n 3 nn ats ks bl e s)) := by
 obtain ⟨pk, rfl⟩ := he.shape
 obtain ⟨W0, hW0⟩ : ∃ W0, W.alloc (.cells #[.int .i64 3, .int .i64 nn, .slice Aa ats.length ca, .slice Ak ks.length ck, .slice Al bl.length cb] 60) = W0 := ⟨_, rfl⟩
 have hb0 : Below W.heap.size W W0 := by rw [← hW0]; exact (Below.refl _ _).alloc (Nat.le_refl _) _
 have hs0 : W.heap.size < W0.heap.size := by rw [← hW0]; simp
 have c0 : W0.cell? ⟨W.heap.size, 0, none⟩ = some (.int .i64 3) := by rw [← hW0, World.cell?_alloc_at _ _ _ _ rfl]; rfl
 have c1 : W0.cell? ⟨W.heap.size, 1, none⟩ = some (.int .i64 nn) := by rw [← hW0, World.cell?_alloc_at _ _ _ _ rfl]; rfl
 have c2 : W0.cell? ⟨W.heap.size, 2, none⟩ = some (.slice Aa ats.length ca) := by rw [← hW0, World.cell?_alloc_at _ _ _ _ rfl]; rfl
 have c3 : W0.cell? ⟨W.heap.size, 3, none⟩ = some (.slice Ak ks.length ck) := by rw [← hW0, World.cell?_alloc_at _ _ _ _ rfl]; rfl
 have c4 : W0.cell? ⟨W.heap.size, 4, none⟩ = some (.slice Al bl.length cb) := by rw [← hW0, World.cell?_alloc_at _ _ _ _ rfl]; rfl
 have HR := Lib.hid (fun (V : World) (hV : Below W0.heap.size W0 V) => (show V.cell? ⟨W.heap.size, 0, none⟩ = some (.int .i64 3) ∧ V.cell? ⟨W.heap.size, 1, none⟩ = some (.int .i64 nn) ∧ V.cell? ⟨W.heap.size, 3, none⟩ = some (.slice Ak ks.length ck) ∧ V.cell? ⟨W.heap.size, 4, none⟩ = some (.slice Al bl.length cb) from
  ⟨(hV.cell (p := ⟨W.heap.size, 0, none⟩) hs0).trans c0, (hV.cell (p := ⟨W.heap.size, 1, none⟩) hs0).trans c1, (hV.cell (p := ⟨W.heap.size, 3, none⟩) hs0).trans c3, (hV.cell (p := ⟨W.heap.size, 4, none⟩) hs0).trans c4⟩))
 have hE0 : Evo rb m m W W0 := Evo.below hb0
 have HA := Lib.hid (show Calls Tryz.prog 82 #[.pointer pk, .slice Aa ats.length ca] W0 (AtomsPost rb m W0 (atomsP e ats)) from
  atoms_any (fun k hk => Nat.lt_of_lt_of_le (hg.mutLt hk) (Nat.le_of_lt hs0)) (he.evo hE0) ((ha.below hb0).mono (Nat.le_of_lt hs0)))
 have HST := Lib.hid (fun (V : World) (hV : Below W0.heap.size W0 V) (ho : atomsP e ats = none) => (show EvPost rb B p inp fuel m W (sideF p inp n 3 nn ats ks bl e s) (.panicked (stopV 4)) V from by
  rw [sideF_none ho]
  have hb : Below W.heap.size W V := hb0.trans (hV.mono (Nat.le_of_lt hs0))
  exact .stuck (Evo.below hb) (hg.below hb) (thrown_one _ _)))
 have HW := Lib.hid (fun (V : World) (hV : Below W0.heap.size W0 V) => (show Below W.heap.size W V from hb0.trans (hV.mono (Nat.le_of_lt hs0))))
 have HL := Lib.hid (fun (l : List PV) (ho : atomsP e ats = some l) => atomsP_len ats l ho)
 have HE := Lib.hid (fun (V : World) (l : List PV) (A : Option Addr) (cap : Nat) (hV : Below W.heap.size W V) (ho : sideF p inp n 3 nn ats ks bl e s = rhsF p.funs inp (evF p.funs inp n) 3 nn l ks bl e s) (hr : RowZ rb m V l A) (hl : l.length = ats.length) (hc : l.length ≤ cap) => (show EvPost rb B p inp fuel m W (sideF p inp n 3 nn ats ks bl e s) (.returned (.iface 116 (.pointer (some ⟨V.heap.size, 0, none⟩)))) (V.alloc (.cells #[.int .i64 nn, .slice A l.length cap] 119)) from by
  obtain ⟨g, F, rfl, h2, h3, h4, h5⟩ := hr (by omega)
  have hgV := hg.below hV
  have ha : Evo rb m m V (V.alloc (.cells #[.int .i64 nn, .slice (some ⟨g, 0, none⟩) l.length cap] 119)) := Evo.alloc _ _ _ _
  rw [ho, show rhsF p.funs inp (evF p.funs inp n) 3 nn l ks bl e s = (.val (.blk nn l), s) by simp [rhsF]]
  exact .val ((Evo.below hV).trans ha) (hgV.below ((Below.refl _ _).alloc (Nat.le_refl _) _)) (.blk (at_new (fun k hk => hgV.mutLt hk) _ _) (Nat.lt_of_lt_of_le h2 ha.size) h3 hc (by omega) (by omega) (fun j hj => (cell_of_heap (ha.same g h2 h3) j).trans (h4 j hj)) (fun j hj => (h5 j hj).evo ha))))
 obtain ⟨out, hout⟩ : ∃ o, sideF p inp n 3 nn ats ks bl e s = o := ⟨_, rfl⟩
 rw [hout] at HE
 rw [hout] at HST ⊢
 have HO := Lib.hid hout
 clear hout hE0 hs0 hb0 c0 c1 c3 c4 ha hg he h1
 go_enter Tryz.func63, Tryz.ntmps63
 go_wp2_with fail
 refine HA.out.mono ?_
 rintro en w' (⟨l, A, cap, hv, rfl, hlc, hrow, hw⟩ | ⟨hv, rfl, hw⟩)
 rotate_left
 · exact ⟨rfl, HST.out _ hw hv⟩
 have hll := HL.out l hv
 have ho := HO.out.symm.trans (sideF_some hv)
 obtain ⟨d0, d1, d3, d4⟩ := HR.out w' hw
 have HWW := Lib.hid (HW.out w' hw)
 clear HA HST HR HL HW HO hv hw hW0 c2
 have HQ := Lib.hid (HE.out w' l A cap HWW.out ho hrow hll hlc)
 clear hrow ho hll HE HWW
 go_wp2_with fail
 go_ret
 exact HQ.out
theorem side_close (hg : Good rb B p inp fuel s m W) {ats : List Atm} {ks : List Int} {bl : List Anf} {Aa Ak Al : Option Addr} {ca ck cb : Nat} {e : PEnv} {ge : Value} (he : EnvIn rb m W e ge) (ha : AtomsIn W.heap.size W Aa ats) (nn : Int) (h1 : ats.length ≤ 255 ∧ 0 ≤ nn ∧ nn < p.funs.length):
 Calls Tryz.prog 63 #[.pointer (some ⟨rb, 0, none⟩), .agg #[.int .i64 9, .int .i64 nn, .slice Aa ats.length ca, .slice Ak ks.length ck, .slice Al bl.length cb], ge] W (EvPost rb B p inp fuel m W (sideF p inp n 9 nn ats ks bl e s)) := by
 obtain ⟨pk, rfl⟩ := he.shape
 obtain ⟨W0, hW0⟩ : ∃ W0, W.alloc (.cells #[.int .i64 9, .int .i64 nn, .slice Aa ats.length ca, .slice Ak ks.length ck, .slice Al bl.length cb] 60) = W0 := ⟨_, rfl⟩
 have hb0 : Below W.heap.size W W0 := by rw [← hW0]; exact (Below.refl _ _).alloc (Nat.le_refl _) _
 have hs0 : W.heap.size < W0.heap.size := by rw [← hW0]; simp
 have c0 : W0.cell? ⟨W.heap.size, 0, none⟩ = some (.int .i64 9) := by rw [← hW0, World.cell?_alloc_at _ _ _ _ rfl]; rfl
 have c1 : W0.cell? ⟨W.heap.size, 1, none⟩ = some (.int .i64 nn) := by rw [← hW0, World.cell?_alloc_at _ _ _ _ rfl]; rfl
 have c2 : W0.cell? ⟨W.heap.size, 2, none⟩ = some (.slice Aa ats.length ca) := by rw [← hW0, World.cell?_alloc_at _ _ _ _ rfl]; rfl
 have c3 : W0.cell? ⟨W.heap.size, 3, none⟩ = some (.slice Ak ks.length ck) := by rw [← hW0, World.cell?_alloc_at _ _ _ _ rfl]; rfl
 have c4 : W0.cell? ⟨W.heap.size, 4, none⟩ = some (.slice Al bl.length cb) := by rw [← hW0, World.cell?_alloc_at _ _ _ _ rfl]; rfl
 have HR := Lib.hid (fun (V : World) (hV : Below W0.heap.size W0 V) => (show V.cell? ⟨W.heap.size, 0, none⟩ = some (.int .i64 9) ∧ V.cell? ⟨W.heap.size, 1, none⟩ = some (.int .i64 nn) ∧ V.cell? ⟨W.heap.size, 3, none⟩ = some (.slice Ak ks.length ck) ∧ V.cell? ⟨W.heap.size, 4, none⟩ = some (.slice Al bl.length cb) from
  ⟨(hV.cell (p := ⟨W.heap.size, 0, none⟩) hs0).trans c0, (hV.cell (p := ⟨W.heap.size, 1, none⟩) hs0).trans c1, (hV.cell (p := ⟨W.heap.size, 3, none⟩) hs0).trans c3, (hV.cell (p := ⟨W.heap.size, 4, none⟩) hs0).trans c4⟩))
 have hE0 : Evo rb m m W W0 := Evo.below hb0
 have HA := Lib.hid (show Calls Tryz.prog 82 #[.pointer pk, .slice Aa ats.length ca] W0 (AtomsPost rb m W0 (atomsP e ats)) from
  atoms_any (fun k hk => Nat.lt_of_lt_of_le (hg.mutLt hk) (Nat.le_of_lt hs0)) (he.evo hE0) ((ha.below hb0).mono (Nat.le_of_lt hs0)))
 have HST := Lib.hid (fun (V : World) (hV : Below W0.heap.size W0 V) (ho : atomsP e ats = none) => (show EvPost rb B p inp fuel m W (sideF p inp n 9 nn ats ks bl e s) (.panicked (stopV 4)) V from by
  rw [sideF_none ho]
  have hb : Below W.heap.size W V := hb0.trans (hV.mono (Nat.le_of_lt hs0))
  exact .stuck (Evo.below hb) (hg.below hb) (thrown_one _ _)))
 have HW := Lib.hid (fun (V : World) (hV : Below W0.heap.size W0 V) => (show Below W.heap.size W V from hb0.trans (hV.mono (Nat.le_of_lt hs0))))
 have HL := Lib.hid (fun (l : List PV) (ho : atomsP e ats = some l) => atomsP_len ats l ho)
 have HE := Lib.hid (fun (V : World) (l : List PV) (A : Option Addr) (cap : Nat) (hV : Below W.heap.size W V) (ho : sideF p inp n 9 nn ats ks bl e s = rhsF p.funs inp (evF p.funs inp n) 9 nn l ks bl e s) (hr : RowZ rb m V l A) (hl : l.length = ats.length) (hc : l.length ≤ cap) => (show EvPost rb B p inp fuel m W (sideF p inp n 9 nn ats ks bl e s) (.returned (.iface 145 (.pointer (some ⟨V.heap.size, 0, none⟩)))) (V.alloc (.cells #[.int .i64 nn, .slice A l.length cap] 147)) from by
  have hgV := hg.below hV
  obtain ⟨q1, q2, q3⟩ := hgV.addClosure h1.2.1 h1.2.2 hc (by omega) hr.row
  rw [ho, show rhsF p.funs inp (evF p.funs inp n) 9 nn l ks bl e s = (.val (.fn s.made.length), { s with made := s.made ++ [(nn, l)] }) by simp [rhsF]]
  exact .val ((Evo.below hV).trans q2) q1 q3))
 obtain ⟨out, hout⟩ : ∃ o, sideF p inp n 9 nn ats ks bl e s = o := ⟨_, rfl⟩
 rw [hout] at HE
 rw [hout] at HST ⊢
 have HO := Lib.hid hout
 clear hout hE0 hs0 hb0 c0 c1 c3 c4 ha hg he h1
 go_enter Tryz.func63, Tryz.ntmps63
 go_wp2_with fail
 refine HA.out.mono ?_
 rintro en w' (⟨l, A, cap, hv, rfl, hlc, hrow, hw⟩ | ⟨hv, rfl, hw⟩)
 rotate_left
 · exact ⟨rfl, HST.out _ hw hv⟩
 have hll := HL.out l hv
 have ho := HO.out.symm.trans (sideF_some hv)
 obtain ⟨d0, d1, d3, d4⟩ := HR.out w' hw
 have HWW := Lib.hid (HW.out w' hw)
 clear HA HST HR HL HW HO hv hw hW0 c2
 have HQ := Lib.hid (HE.out w' l A cap HWW.out ho hrow hll hlc)
 clear hrow ho hll HE HWW
 go_wp2_with fail
 go_ret
 exact HQ.out
theorem side_field (hg : Good rb B p inp fuel s m W) {ats : List Atm} {ks : List Int} {bl : List Anf} {Aa Ak Al : Option Addr} {ca ck cb : Nat} {e : PEnv} {ge : Value} (he : EnvIn rb m W e ge) (ha : AtomsIn W.heap.size W Aa ats) (nn : Int) (h1 : ats.length = 1) (h2 : 0 ≤ nn ∧ nn ≤ 255):
 Calls Tryz.prog 63 #[.pointer (some ⟨rb, 0, none⟩), .agg #[.int .i64 4, .int .i64 nn, .slice Aa ats.length ca, .slice Ak ks.length ck, .slice Al bl.length cb], ge] W (EvPost rb B p inp fuel m W (sideF p inp n 4 nn ats ks bl e s)) := by
 obtain ⟨pk, rfl⟩ := he.shape
 obtain ⟨W0, hW0⟩ : ∃ W0, W.alloc (.cells #[.int .i64 4, .int .i64 nn, .slice Aa ats.length ca, .slice Ak ks.length ck, .slice Al bl.length cb] 60) = W0 := ⟨_, rfl⟩
 have hb0 : Below W.heap.size W W0 := by rw [← hW0]; exact (Below.refl _ _).alloc (Nat.le_refl _) _
 have hs0 : W.heap.size < W0.heap.size := by rw [← hW0]; simp
 have c0 : W0.cell? ⟨W.heap.size, 0, none⟩ = some (.int .i64 4) := by rw [← hW0, World.cell?_alloc_at _ _ _ _ rfl]; rfl
 have c1 : W0.cell? ⟨W.heap.size, 1, none⟩ = some (.int .i64 nn) := by rw [← hW0, World.cell?_alloc_at _ _ _ _ rfl]; rfl
 have c2 : W0.cell? ⟨W.heap.size, 2, none⟩ = some (.slice Aa ats.length ca) := by rw [← hW0, World.cell?_alloc_at _ _ _ _ rfl]; rfl
 have c3 : W0.cell? ⟨W.heap.size, 3, none⟩ = some (.slice Ak ks.length ck) := by rw [← hW0, World.cell?_alloc_at _ _ _ _ rfl]; rfl
 have c4 : W0.cell? ⟨W.heap.size, 4, none⟩ = some (.slice Al bl.length cb) := by rw [← hW0, World.cell?_alloc_at _ _ _ _ rfl]; rfl
 have HR := Lib.hid (fun (V : World) (hV : Below W0.heap.size W0 V) => (show V.cell? ⟨W.heap.size, 0, none⟩ = some (.int .i64 4) ∧ V.cell? ⟨W.heap.size, 1, none⟩ = some (.int .i64 nn) ∧ V.cell? ⟨W.heap.size, 3, none⟩ = some (.slice Ak ks.length ck) ∧ V.cell? ⟨W.heap.size, 4, none⟩ = some (.slice Al bl.length cb) from
  ⟨(hV.cell (p := ⟨W.heap.size, 0, none⟩) hs0).trans c0, (hV.cell (p := ⟨W.heap.size, 1, none⟩) hs0).trans c1, (hV.cell (p := ⟨W.heap.size, 3, none⟩) hs0).trans c3, (hV.cell (p := ⟨W.heap.size, 4, none⟩) hs0).trans c4⟩))
 have hE0 : Evo rb m m W W0 := Evo.below hb0
 have HA := Lib.hid (show Calls Tryz.prog 82 #[.pointer pk, .slice Aa ats.length ca] W0 (AtomsPost rb m W0 (atomsP e ats)) from
  atoms_any (fun k hk => Nat.lt_of_lt_of_le (hg.mutLt hk) (Nat.le_of_lt hs0)) (he.evo hE0) ((ha.below hb0).mono (Nat.le_of_lt hs0)))
 have HST := Lib.hid (fun (V : World) (hV : Below W0.heap.size W0 V) (ho : atomsP e ats = none) => (show EvPost rb B p inp fuel m W (sideF p inp n 4 nn ats ks bl e s) (.panicked (stopV 4)) V from by
  rw [sideF_none ho]
  have hb : Below W.heap.size W V := hb0.trans (hV.mono (Nat.le_of_lt hs0))
  exact .stuck (Evo.below hb) (hg.below hb) (thrown_one _ _)))
 have HW := Lib.hid (fun (V : World) (hV : Below W0.heap.size W0 V) => (show Below W.heap.size W V from hb0.trans (hV.mono (Nat.le_of_lt hs0))))
 have HL := Lib.hid (fun (l : List PV) (ho : atomsP e ats = some l) => atomsP_len ats l ho)
 have HE := Lib.hid (fun (V : World) (l : List PV) (A : Option Addr) (hV : Below W.heap.size W V) (ho : sideF p inp n 4 nn ats ks bl e s = rhsF p.funs inp (evF p.funs inp n) 4 nn l ks bl e s) (hr : RowZ rb m V l A) (hl : l.length = 1) => (show ∃ g T x, A = some ⟨g, 0, none⟩ ∧ V.cell? ⟨g, 0, none⟩ = some (.iface T x) ∧ Calls Tryz.prog 83 #[.iface T x, .int .i64 nn] V.drew fun en V' => V.drew = V' ∧ ((∃ T' x', en = .returned (.iface T' x') ∧ EvPost rb B p inp fuel m W (sideF p inp n 4 nn ats ks bl e s) (.returned (.iface T' x')) V') ∨ (en = .panicked (stopV 4) ∧ EvPost rb B p inp fuel m W (sideF p inp n 4 nn ats ks bl e s) (.panicked (stopV 4)) V')) from by
  obtain ⟨a, g, T, x, rfl, q2, q3, q4, q5, q6⟩ := hr.one hl
  have hgV := hg.below hV
  have hd : Evo rb m m V V.drew := (Evo.refl _ _ _).drew
  have hgd := hgV.below (Below.refl _ _).drew
  refine ⟨g, T, x, q2, q5, ?_⟩
  rw [ho, show rhsF p.funs inp (evF p.funs inp n) 4 nn [a] ks bl e s = fieldF a nn s by simp [rhsF]]
  refine (field_any hgd (q6.evo hd) h2.1 h2.2).mono ?_
  rintro en V' (⟨v, T', x', k1, rfl, k3, rfl⟩ | ⟨k1, rfl, rfl⟩)
  · exact ⟨rfl, .inl ⟨T', x', rfl, by rw [k1]; exact .val ((Evo.below hV).trans hd) hgd k3⟩⟩
  · exact ⟨rfl, .inr ⟨rfl, by rw [k1]; exact .stuck ((Evo.below hV).trans hd) hgd (thrown_one _ _)⟩⟩))
 have h1' := Lib.hid h1
 obtain ⟨out, hout⟩ : ∃ o, sideF p inp n 4 nn ats ks bl e s = o := ⟨_, rfl⟩
 rw [hout] at HE
 rw [hout] at HST ⊢
 have HO := Lib.hid hout
 clear hout hE0 hs0 hb0 c0 c1 c3 c4 ha hg he h1
 go_enter Tryz.func63, Tryz.ntmps63
 go_wp2_with fail
 refine HA.out.mono ?_
 rintro en w' (⟨l, A, cap, hv, rfl, hlc, hrow, hw⟩ | ⟨hv, rfl, hw⟩)
 rotate_left
 · exact ⟨rfl, HST.out _ hw hv⟩
 have hll := HL.out l hv
 have ho := HO.out.symm.trans (sideF_some hv)
 obtain ⟨d0, d1, d3, d4⟩ := HR.out w' hw
 have HWW := Lib.hid (HW.out w' hw)
 clear HA HST HR HL HW HO hv hw hW0 c2
 obtain ⟨g, T, x, rfl, q0, hq⟩ := HE.out w' l A HWW.out ho hrow (by rw [hll, h1'.out])
 have hl1 : l.length = 1 := by rw [hll, h1'.out]
 rw [hl1] at hlc ⊢
 have HQ := Lib.hid hq
 clear hrow hq ho hll hl1 HE HWW d3 d4
 go_wp2_with fail
 go_region_held2 (fun V => V.cell? ⟨g, 0, none⟩ = some (.iface T x) ∧ V.cell? ⟨W.heap.size, 1, none⟩ = some (.int .i64 nn)) (exact ⟨q0, d1⟩)
  ((go_at_call 83; refine HQ.out.mono ?_; rintro en V' ⟨rfl, hV'⟩; rcases hV' with ⟨T', x', rfl, hP⟩ | ⟨rfl, hP⟩; rotate_left; exact ⟨rfl, hP⟩))
 all_goals
  go_wp2_with fail
  go_ret
  exact hP
theorem side_app (hok : BodyOk rb B p inp fuel n) (hwf : ∀ g ∈ p.funs, WfA p.funs.length g.body) (hn : s.left ≤ n) (hg : Good rb B p inp fuel s m W) {ats : List Atm} {ks : List Int} {bl : List Anf} {Aa Ak Al : Option Addr} {ca ck cb : Nat} {e : PEnv} {ge : Value} (he : EnvIn rb m W e ge) (ha : AtomsIn W.heap.size W Aa ats) (nn : Int) (h1 : ats.length = 2):
 Calls Tryz.prog 63 #[.pointer (some ⟨rb, 0, none⟩), .agg #[.int .i64 6, .int .i64 nn, .slice Aa ats.length ca, .slice Ak ks.length ck, .slice Al bl.length cb], ge] W (EvPost rb B p inp fuel m W (sideF p inp n 6 nn ats ks bl e s)) := by
 obtain ⟨pk, rfl⟩ := he.shape
 obtain ⟨W0, hW0⟩ : ∃ W0, W.alloc (.cells #[.int .i64 6, .int .i64 nn, .slice Aa ats.length ca, .slice Ak ks.length ck, .slice Al bl.length cb] 60) = W0 := ⟨_, rfl⟩
 have hb0 : Below W.heap.size W W0 := by rw [← hW0]; exact (Below.refl _ _).alloc (Nat.le_refl _) _
 have hs0 : W.heap.size < W0.heap.size := by rw [← hW0]; simp
 have c0 : W0.cell? ⟨W.heap.size, 0, none⟩ = some (.int .i64 6) := by rw [← hW0, World.cell?_alloc_at _ _ _ _ rfl]; rfl
 have c1 : W0.cell? ⟨W.heap.size, 1, none⟩ = some (.int .i64 nn) := by rw [← hW0, World.cell?_alloc_at _ _ _ _ rfl]; rfl
 have c2 : W0.cell? ⟨W.heap.size, 2, none⟩ = some (.slice Aa ats.length ca) := by rw [← hW0, World.cell?_alloc_at _ _ _ _ rfl]; rfl
 have c3 : W0.cell? ⟨W.heap.size, 3, none⟩ = some (.slice Ak ks.length ck) := by rw [← hW0, World.cell?_alloc_at _ _ _ _ rfl]; rfl
 have c4 : W0.cell? ⟨W.heap.size, 4, none⟩ = some (.slice Al bl.length cb) := by rw [← hW0, World.cell?_alloc_at _ _ _ _ rfl]; rfl
 have HR := Lib.hid (fun (V : World) (hV : Below W0.heap.size W0 V) => (show V.cell? ⟨W.heap.size, 0, none⟩ = some (.int .i64 6) ∧ V.cell? ⟨W.heap.size, 1, none⟩ = some (.int .i64 nn) ∧ V.cell? ⟨W.heap.size, 3, none⟩ = some (.slice Ak ks.length ck) ∧ V.cell? ⟨W.heap.size, 4, none⟩ = some (.slice Al bl.length cb) from
  ⟨(hV.cell (p := ⟨W.heap.size, 0, none⟩) hs0).trans c0, (hV.cell (p := ⟨W.heap.size, 1, none⟩) hs0).trans c1, (hV.cell (p := ⟨W.heap.size, 3, none⟩) hs0).trans c3, (hV.cell (p := ⟨W.heap.size, 4, none⟩) hs0).trans c4⟩))
 have hE0 : Evo rb m m W W0 := Evo.below hb0
 have HA := Lib.hid (show Calls Tryz.prog 82 #[.pointer pk, .slice Aa ats.length ca] W0 (AtomsPost rb m W0 (atomsP e ats)) from
  atoms_any (fun k hk => Nat.lt_of_lt_of_le (hg.mutLt hk) (Nat.le_of_lt hs0)) (he.evo hE0) ((ha.below hb0).mono (Nat.le_of_lt hs0)))
 have HST := Lib.hid (fun (V : World) (hV : Below W0.heap.size W0 V) (ho : atomsP e ats = none) => (show EvPost rb B p inp fuel m W (sideF p inp n 6 nn ats ks bl e s) (.panicked (stopV 4)) V from by
  rw [sideF_none ho]
  have hb : Below W.heap.size W V := hb0.trans (hV.mono (Nat.le_of_lt hs0))
  exact .stuck (Evo.below hb) (hg.below hb) (thrown_one _ _)))
 have HW := Lib.hid (fun (V : World) (hV : Below W0.heap.size W0 V) => (show Below W.heap.size W V from hb0.trans (hV.mono (Nat.le_of_lt hs0))))
 have HL := Lib.hid (fun (l : List PV) (ho : atomsP e ats = some l) => atomsP_len ats l ho)
 have HE := Lib.hid (fun (V : World) (l : List PV) (A : Option Addr) (hV : Below W.heap.size W V) (ho : sideF p inp n 6 nn ats ks bl e s = rhsF p.funs inp (evF p.funs inp n) 6 nn l ks bl e s) (hr : RowZ rb m V l A) (hl : l.length = 2) => (show ∃ g T x U y, A = some ⟨g, 0, none⟩ ∧ V.cell? ⟨g, 0, none⟩ = some (.iface T x) ∧ V.cell? ⟨g, 1, none⟩ = some (.iface U y) ∧ (∀ (m' : Mem) (V' : World), Evo rb m m' V V' → V'.cell? ⟨g, 0, none⟩ = some (.iface T x) ∧ V'.cell? ⟨g, 1, none⟩ = some (.iface U y)) ∧ Calls Tryz.prog 84 #[.pointer (some ⟨rb, 0, none⟩), .iface T x, .iface U y] V.drew fun en V' => (∃ m', Evo rb m m' V V') ∧ EvPost rb B p inp fuel m W (sideF p inp n 6 nn ats ks bl e s) en V' from by
  obtain ⟨a, b, g, T, x, U, y, rfl, q2, q3, q4, q5, q6, q7, q8⟩ := hr.two hl
  have hgV := hg.below hV
  have hd : Evo rb m m V V.drew := (Evo.refl _ _ _).drew
  have hgd := hgV.below (Below.refl _ _).drew
  refine ⟨g, T, x, U, y, q2, q5, q6, fun m' V' hE => ⟨(cell_of_heap (hE.same g q3 q4) _).trans q5, (cell_of_heap (hE.same g q3 q4) _).trans q6⟩, ?_⟩
  rw [ho, show rhsF p.funs inp (evF p.funs inp n) 6 nn [a, b] ks bl e s = callF p.funs (evF p.funs inp n) a b s by simp [rhsF]]
  refine (call_any hok hwf a b (q7.evo hd) (q8.evo hd) hgd hn).mono fun en V' h => ?_
  obtain ⟨m', hm'⟩ := h.evo
  exact ⟨⟨m', hd.trans hm'⟩, h.from_ ((Evo.below hV).trans hd)⟩))
 have h1' := Lib.hid h1
 obtain ⟨out, hout⟩ : ∃ o, sideF p inp n 6 nn ats ks bl e s = o := ⟨_, rfl⟩
 rw [hout] at HE
 rw [hout] at HST ⊢
 have HO := Lib.hid hout
 clear hout hE0 hs0 hb0 c0 c1 c3 c4 ha hg he h1 hok hwf
 go_enter Tryz.func63, Tryz.ntmps63
 go_wp2_with fail
 refine HA.out.mono ?_
 rintro en w' (⟨l, A, cap, hv, rfl, hlc, hrow, hw⟩ | ⟨hv, rfl, hw⟩)
 rotate_left
 · exact ⟨rfl, HST.out _ hw hv⟩
 have hll := HL.out l hv
 have ho := HO.out.symm.trans (sideF_some hv)
 obtain ⟨d0, d1, d3, d4⟩ := HR.out w' hw
 have HWW := Lib.hid (HW.out w' hw)
 clear HA HST HR HL HW HO hv hw hW0 c2
 obtain ⟨g, T, x, U, y, rfl, q0, q1, hS, hq⟩ := HE.out w' l A HWW.out ho hrow (by rw [hll, h1'.out])
 have hl1 : l.length = 2 := by rw [hll, h1'.out]
 rw [hl1] at hlc ⊢
 have HQ := Lib.hid hq
 have HS := Lib.hid hS
 clear hrow hq hS ho hll hl1 HE HWW d3 d4 d1
 go_wp2_with fail
 go_region_held2 (fun V => V.cell? ⟨g, 0, none⟩ = some (.iface T x) ∧ V.cell? ⟨g, 1, none⟩ = some (.iface U y)) (first | exact ⟨q0, q1⟩ | exact HS.out _ _ hEV)
  ((go_at_call 84; refine HQ.out.mono ?_; rintro en V' ⟨⟨mE, hEV⟩, h⟩; rcases h.ends with ⟨g', rfl, hP⟩ | ⟨ch, rfl, hP⟩; rotate_left; exact ⟨rfl, hP⟩))
 all_goals
  go_wp2_with fail
  go_ret
  exact hP
theorem side_prim (hok : BodyOk rb B p inp fuel n) (hwf : ∀ g ∈ p.funs, WfA p.funs.length g.body) (hn : s.left ≤ n) (hs : s.out.length + s.left < fuel) (hg : Good rb B p inp fuel s m W) {ats : List Atm} {ks : List Int} {bl : List Anf} {Aa Ak Al : Option Addr} {ca ck cb : Nat} {e : PEnv} {ge : Value} (he : EnvIn rb m W e ge) (ha : AtomsIn W.heap.size W Aa ats) (nn : Int) (h1 : ats.length = if twoF nn then 2 else 1) (h2 : 1 ≤ nn ∧ nn ≤ 16):
 Calls Tryz.prog 63 #[.pointer (some ⟨rb, 0, none⟩), .agg #[.int .i64 2, .int .i64 nn, .slice Aa ats.length ca, .slice Ak ks.length ck, .slice Al bl.length cb], ge] W (EvPost rb B p inp fuel m W (sideF p inp n 2 nn ats ks bl e s)) := by
 obtain ⟨pk, rfl⟩ := he.shape
 obtain ⟨W0, hW0⟩ : ∃ W0, W.alloc (.cells #[.int .i64 2, .int .i64 nn, .slice Aa ats.length ca, .slice Ak ks.length ck, .slice Al bl.length cb] 60) = W0 := ⟨_, rfl⟩
 have hb0 : Below W.heap.size W W0 := by rw [← hW0]; exact (Below.refl _ _).alloc (Nat.le_refl _) _
 have hs0 : W.heap.size < W0.heap.size := by rw [← hW0]; simp
 have c0 : W0.cell? ⟨W.heap.size, 0, none⟩ = some (.int .i64 2) := by rw [← hW0, World.cell?_alloc_at _ _ _ _ rfl]; rfl
 have c1 : W0.cell? ⟨W.heap.size, 1, none⟩ = some (.int .i64 nn) := by rw [← hW0, World.cell?_alloc_at _ _ _ _ rfl]; rfl
 have c2 : W0.cell? ⟨W.heap.size, 2, none⟩ = some (.slice Aa ats.length ca) := by rw [← hW0, World.cell?_alloc_at _ _ _ _ rfl]; rfl
 have c3 : W0.cell? ⟨W.heap.size, 3, none⟩ = some (.slice Ak ks.length ck) := by rw [← hW0, World.cell?_alloc_at _ _ _ _ rfl]; rfl
 have c4 : W0.cell? ⟨W.heap.size, 4, none⟩ = some (.slice Al bl.length cb) := by rw [← hW0, World.cell?_alloc_at _ _ _ _ rfl]; rfl
 have HR := Lib.hid (fun (V : World) (hV : Below W0.heap.size W0 V) => (show V.cell? ⟨W.heap.size, 0, none⟩ = some (.int .i64 2) ∧ V.cell? ⟨W.heap.size, 1, none⟩ = some (.int .i64 nn) ∧ V.cell? ⟨W.heap.size, 3, none⟩ = some (.slice Ak ks.length ck) ∧ V.cell? ⟨W.heap.size, 4, none⟩ = some (.slice Al bl.length cb) from
  ⟨(hV.cell (p := ⟨W.heap.size, 0, none⟩) hs0).trans c0, (hV.cell (p := ⟨W.heap.size, 1, none⟩) hs0).trans c1, (hV.cell (p := ⟨W.heap.size, 3, none⟩) hs0).trans c3, (hV.cell (p := ⟨W.heap.size, 4, none⟩) hs0).trans c4⟩))
 have hE0 : Evo rb m m W W0 := Evo.below hb0
 have HA := Lib.hid (show Calls Tryz.prog 82 #[.pointer pk, .slice Aa ats.length ca] W0 (AtomsPost rb m W0 (atomsP e ats)) from
  atoms_any (fun k hk => Nat.lt_of_lt_of_le (hg.mutLt hk) (Nat.le_of_lt hs0)) (he.evo hE0) ((ha.below hb0).mono (Nat.le_of_lt hs0)))
 have HST := Lib.hid (fun (V : World) (hV : Below W0.heap.size W0 V) (ho : atomsP e ats = none) => (show EvPost rb B p inp fuel m W (sideF p inp n 2 nn ats ks bl e s) (.panicked (stopV 4)) V from by
  rw [sideF_none ho]
  have hb : Below W.heap.size W V := hb0.trans (hV.mono (Nat.le_of_lt hs0))
  exact .stuck (Evo.below hb) (hg.below hb) (thrown_one _ _)))
 have HW := Lib.hid (fun (V : World) (hV : Below W0.heap.size W0 V) => (show Below W.heap.size W V from hb0.trans (hV.mono (Nat.le_of_lt hs0))))
 have HL := Lib.hid (fun (l : List PV) (ho : atomsP e ats = some l) => atomsP_len ats l ho)
 have HE := Lib.hid (fun (V : World) (l : List PV) (A : Option Addr) (cap : Nat) (hV : Below W.heap.size W V) (ho : sideF p inp n 2 nn ats ks bl e s = rhsF p.funs inp (evF p.funs inp n) 2 nn l ks bl e s) (hr : RowZ rb m V l A) (hl : l.length = ats.length) => (show Calls Tryz.prog 85 #[.pointer (some ⟨rb, 0, none⟩), .int .i64 nn, .slice A l.length cap] V (EvPost rb B p inp fuel m W (sideF p inp n 2 nn ats ks bl e s)) from by
  have hp : 0 < l.length := by rw [hl, h1]; split <;> omega
  obtain ⟨g, F, rfl, q2, q3, q4, q5⟩ := hr hp
  have hgV := hg.below hV
  rw [ho, show rhsF p.funs inp (evF p.funs inp n) 2 nn l ks bl e s = primF p.funs inp (evF p.funs inp n) nn l s by simp [rhsF]]
  exact (prim_any hok hwf hgV hn hs h2.1 h2.2 (l := l) (g := g) (cap := cap) (F := F) (by rw [hl, h1]) ⟨q2, q3, q4, q5⟩).mono fun en V' h => h.from_ (Evo.below hV)))
 obtain ⟨out, hout⟩ : ∃ o, sideF p inp n 2 nn ats ks bl e s = o := ⟨_, rfl⟩
 rw [hout] at HE
 rw [hout] at HST ⊢
 have HO := Lib.hid hout
 clear hout hE0 hs0 hb0 c0 c1 c3 c4 ha hg he h1 hok hwf h2
 go_enter Tryz.func63, Tryz.ntmps63
 go_wp2_with fail
 refine HA.out.mono ?_
 rintro en w' (⟨l, A, cap, hv, rfl, hlc, hrow, hw⟩ | ⟨hv, rfl, hw⟩)
 rotate_left
 · exact ⟨rfl, HST.out _ hw hv⟩
 have hll := HL.out l hv
 have ho := HO.out.symm.trans (sideF_some hv)
 obtain ⟨d0, d1, d3, d4⟩ := HR.out w' hw
 have HWW := Lib.hid (HW.out w' hw)
 clear HA HST HR HL HW HO hv hw hW0 c2
 have HQ := Lib.hid (HE.out w' l A cap HWW.out ho hrow hll)
 clear hrow ho hll HE HWW d3 d4
 go_wp2_with fail
 refine HQ.out.mono ?_
 intro en V' h
 rcases h.ends with ⟨g', rfl, hP⟩ | ⟨ch, rfl, hP⟩
 · go_wp2_with fail
   go_ret
   exact hP
 · exact ⟨rfl, hP⟩
end
end Go.Proofs.YtnobggabjpcbfaaGreat
