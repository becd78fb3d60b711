/-
  3 texts of this seat in one: PS3 PH17 PH18.
-/
import Derived.Test.YtllakbiipdcboaaDoorQA7
import Derived.Test.YtllakbiipdcboaaDoorQA5
import Derived.StillTailTactics
/-
  The evaluator of terms: right sides.
-/
set_option linter.unusedVariables false
set_option linter.unusedSimpArgs false
namespace Go.Proofs.YtllakbiipdcboaaDoor
open Go.RowKit

theorem BlocksIn.later {B : Nat} {W V : World} {Al : Option Addr} {bl : List Anf} (h : BlocksIn B W Al bl) (hb : Below B W V) : BlocksIn B V Al bl := ⟨h.1, fun q hq => by
  obtain ⟨bb, oo, g0, g1, g2, e1, e2, e3, e4, e5, hbd⟩ := h.2 q hq
  exact ⟨bb, oo, g0, g1, g2, e1, e2, (hb.cell (p := ⟨_, _, none⟩) e2).trans e3, (hb.cell (p := ⟨_, _, none⟩) e2).trans e4, (hb.cell (p := ⟨_, _, none⟩) e2).trans e5, hbd.kept hb⟩⟩
theorem atomsP_len {e : PEnv} : ∀ (ats : List Atm) (l : List PV), atomsP e ats = some l → l.length = ats.length
  | [], l, h => by simp only [atomsP, Option.some.injEq] at h; subst h; rfl
  | a :: ats, l, h => by
    simp only [atomsP] at h
    cases ha : atomP e a with
    | none => rw [ha] at h; cases h
    | some v =>
      rw [ha] at h
      simp only [Option.map_eq_some_iff] at h
      obtain ⟨l', h2, rfl⟩ := h
      simp [atomsP_len ats l' h2]
noncomputable def sdR0 : Code := match Tryd.f28.body with
  | some (.seq a _) => a
  | _ => .skip
noncomputable def sdR1 : Code := match Tryd.f28.body with
  | some (.seq _ (.seq a _)) => a
  | _ => .skip
noncomputable def sdR2 : Code := match Tryd.f28.body with
  | some (.seq _ (.seq _ (.seq a _))) => a
  | _ => .skip
noncomputable def sdL : Code := match Tryd.f28.body with
  | some (.seq _ (.seq _ (.seq _ (.seq a _)))) => a
  | _ => .skip
section
variable {rb B : Nat} {p : FlatP} {inp : List Int} {fuel n : Nat} {s : FSt} {m : Mem} {W V : World} {X : Nat} {nn : Int} {Aa Ak Al A : Option Addr} {na ca nk ck nb cb cap : Nat} {l : List PV} {ks : List Int} {bl : List Anf} {e : PEnv} {pk : Option Addr}
set_option maxRecDepth 100000 in
set_option maxHeartbeats 8000000 in
theorem side_tail {x k : Int} {ats : List Atm} (C : SCtx rb B p inp fuel m W s V X k nn Aa Ak Al A na ca nk ck nb cb cap l e (.pointer pk)) (hok : BodyOk rb B p inp fuel n) (hn : s.left < n) (hs : s.out.length + s.left < fuel) (hb : BindOk p.funs.length x k nn ats ks bl.length) (hk7 : k ≠ 7) (hl : l.length = ats.length)
    (hks : IntsIn V.heap.size V Ak ks) (hnk : nk = ks.length) (hkc : nk ≤ ck) (hbl : BlocksIn B V Al bl) (hnb : nb = bl.length) (hcb : nb ≤ cb) (hwb : ∀ c ∈ bl, WfA p.funs.length c) (u1 u3 u5 u6 u7 u9 u10 u11 u12 u13 u14 u15 u16 u17 u18 u19 u20 u21 u22 u23 u24 u25 u26 u27 u28 u29 u30 u31 u32 u33 u34 u35 u36 u37 u38 u39 u40 u41 u42 u43 u44 u45 u46 u47 u48 u49 u50 u51 u52 u53 u54 u55 u56 u57 u58 u59 u60 u61 u62 u63 u64 u65 u66 u67 u68 u69 u70 u71 u72 u73 u74 u75 u76 u77 u78 u79 u80 u81 u82 u83 u84 u85 u86 u87 u88 u89 u90 u91 u92 u93 u94 u95 u96 u97 u98 u99 u100 u101 u102 u103 u104 u105 u106 u107 u108 u109 u110 u111 u112 u113 u114 u115 u116 u117 u118 u119 u120 u121 u122 u123 u124 u125 u126 u127 u128 u129 u130 u131 u132 u133 u134 u135 u136 u137 : Value) :
    sdT.wp Tryd.prog (bodyPost Tryd.prog Tryd.f28 (EvPost rb B p inp fuel m W (rhsF p.funs inp (evF p.funs inp n) k nn l ks bl e s))) { tmps := #[.pointer (some ⟨rb, 0, none⟩), u1, .pointer pk, u3, .pointer (some ⟨X, 0, none⟩), u5, u6, u7, .slice A l.length cap, u9, u10, u11, u12, u13, u14, u15, u16, u17, u18, u19, u20, u21, u22, u23, u24, u25, u26, u27, u28, u29, u30, u31, u32, u33, u34, u35, u36, u37, u38, u39, u40, u41, u42, u43, u44, u45, u46, u47, u48, u49, u50, u51, u52, u53, u54, u55, u56, u57, u58, u59, u60, u61, u62, u63, u64, u65, u66, u67, u68, u69, u70, u71, u72, u73, u74, u75, u76, u77, u78, u79, u80, u81, u82, u83, u84, u85, u86, u87, u88, u89, u90, u91, u92, u93, u94, u95, u96, u97, u98, u99, u100, u101, u102, u103, u104, u105, u106, u107, u108, u109, u110, u111, u112, u113, u114, u115, u116, u117, u118, u119, u120, u121, u122, u123, u124, u125, u126, u127, u128, u129, u130, u131, u132, u133, u134, u135, u136, u137], defers := [] } V := by
  rcases hb.kind with rfl | rfl | rfl | rfl | rfl | rfl | rfl | rfl
  · exact sd_atom C (by rw [hl]; exact hb.one (.inl rfl)) _ _ _ _ _ _ _ _ _ _ _ _ _ _ _ _ _ _ _ _ _ _ _ _ _ _ _ _ _ _ _ _ _ _ _ _ _ _ _ _ _ _ _ _ _ _ _ _ _ _ _ _ _ _ _ _ _ _ _ _ _ _ _ _ _ _ _ _ _ _ _ _ _ _ _ _ _ _ _ _ _ _ _ _ _ _ _ _ _ _ _ _ _ _ _ _ _ _ _ _ _ _ _ _ _ _ _ _ _ _ _ _ _ _ _ _ _ _ _ _ _ _ _ _ _ _ _ _ _ _ _ _ _ _
  · exact sd_prim C hok (by omega) hs (by rw [hl]; exact hb.primL) hb.prim _ _ _ _ _ _ _ _ _ _ _ _ _ _ _ _ _ _ _ _ _ _ _ _ _ _ _ _ _ _ _ _ _ _ _ _ _ _ _ _ _ _ _ _ _ _ _ _ _ _ _ _ _ _ _ _ _ _ _ _ _ _ _ _ _ _ _ _ _ _ _ _ _ _ _ _ _ _ _ _ _ _ _ _ _ _ _ _ _ _ _ _ _ _ _ _ _ _ _ _ _ _ _ _ _ _ _ _ _ _ _ _ _ _ _ _ _ _ _ _ _ _ _ _ _ _ _ _ _ _ _ _ _ _
  · exact sd_block C (by rw [hl]; exact hb.block) _ _ _ _ _ _ _ _ _ _ _ _ _ _ _ _ _ _ _ _ _ _ _ _ _ _ _ _ _ _ _ _ _ _ _ _ _ _ _ _ _ _ _ _ _ _ _ _ _ _ _ _ _ _ _ _ _ _ _ _ _ _ _ _ _ _ _ _ _ _ _ _ _ _ _ _ _ _ _ _ _ _ _ _ _ _ _ _ _ _ _ _ _ _ _ _ _ _ _ _ _ _ _ _ _ _ _ _ _ _ _ _ _ _ _ _ _ _ _ _ _ _ _ _ _ _ _ _ _ _ _ _ _ _
  · have h1 : l.length = 1 := by rw [hl]; exact hb.one (.inr (.inl rfl))
    obtain ⟨a, hla⟩ : ∃ a, l = [a] := List.length_eq_one_iff.1 h1
    cases a with
    | blk t kids => exact sd_field_blk C h1 hla hb.field.1 _ _ _ _ _ _ _ _ _ _ _ _ _ _ _ _ _ _ _ _ _ _ _ _ _ _ _ _ _ _ _ _ _ _ _ _ _ _ _ _ _ _ _ _ _ _ _ _ _ _ _ _ _ _ _ _ _ _ _ _ _ _ _ _ _ _ _ _ _ _ _ _ _ _ _ _ _ _ _ _ _ _ _ _ _ _ _ _ _ _ _ _ _ _ _ _ _ _ _ _ _ _ _ _ _ _ _ _ _ _ _ _ _ _ _ _ _ _ _ _ _ _ _ _ _ _ _ _ _ _ _ _ _ _
    | int i => exact sd_field_none C h1 hla (by intro t k h; cases h) _ _ _ _ _ _ _ _ _ _ _ _ _ _ _ _ _ _ _ _ _ _ _ _ _ _ _ _ _ _ _ _ _ _ _ _ _ _ _ _ _ _ _ _ _ _ _ _ _ _ _ _ _ _ _ _ _ _ _ _ _ _ _ _ _ _ _ _ _ _ _ _ _ _ _ _ _ _ _ _ _ _ _ _ _ _ _ _ _ _ _ _ _ _ _ _ _ _ _ _ _ _ _ _ _ _ _ _ _ _ _ _ _ _ _ _ _ _ _ _ _ _ _ _ _ _ _ _ _ _ _ _ _ _
    | fn i => exact sd_field_none C h1 hla (by intro t k h; cases h) _ _ _ _ _ _ _ _ _ _ _ _ _ _ _ _ _ _ _ _ _ _ _ _ _ _ _ _ _ _ _ _ _ _ _ _ _ _ _ _ _ _ _ _ _ _ _ _ _ _ _ _ _ _ _ _ _ _ _ _ _ _ _ _ _ _ _ _ _ _ _ _ _ _ _ _ _ _ _ _ _ _ _ _ _ _ _ _ _ _ _ _ _ _ _ _ _ _ _ _ _ _ _ _ _ _ _ _ _ _ _ _ _ _ _ _ _ _ _ _ _ _ _ _ _ _ _ _ _ _ _ _ _ _
    | ref i => exact sd_field_none C h1 hla (by intro t k h; cases h) _ _ _ _ _ _ _ _ _ _ _ _ _ _ _ _ _ _ _ _ _ _ _ _ _ _ _ _ _ _ _ _ _ _ _ _ _ _ _ _ _ _ _ _ _ _ _ _ _ _ _ _ _ _ _ _ _ _ _ _ _ _ _ _ _ _ _ _ _ _ _ _ _ _ _ _ _ _ _ _ _ _ _ _ _ _ _ _ _ _ _ _ _ _ _ _ _ _ _ _ _ _ _ _ _ _ _ _ _ _ _ _ _ _ _ _ _ _ _ _ _ _ _ _ _ _ _ _ _ _ _ _ _ _
  · exact sd_fn C hbl hnb hb.fn.2 hcb hwb _ _ _ _ _ _ _ _ _ _ _ _ _ _ _ _ _ _ _ _ _ _ _ _ _ _ _ _ _ _ _ _ _ _ _ _ _ _ _ _ _ _ _ _ _ _ _ _ _ _ _ _ _ _ _ _ _ _ _ _ _ _ _ _ _ _ _ _ _ _ _ _ _ _ _ _ _ _ _ _ _ _ _ _ _ _ _ _ _ _ _ _ _ _ _ _ _ _ _ _ _ _ _ _ _ _ _ _ _ _ _ _ _ _ _ _ _ _ _ _ _ _ _ _ _ _ _ _ _ _ _ _ _ _
  · exact sd_app C hok (by omega) (by rw [hl]; exact hb.app) _ _ _ _ _ _ _ _ _ _ _ _ _ _ _ _ _ _ _ _ _ _ _ _ _ _ _ _ _ _ _ _ _ _ _ _ _ _ _ _ _ _ _ _ _ _ _ _ _ _ _ _ _ _ _ _ _ _ _ _ _ _ _ _ _ _ _ _ _ _ _ _ _ _ _ _ _ _ _ _ _ _ _ _ _ _ _ _ _ _ _ _ _ _ _ _ _ _ _ _ _ _ _ _ _ _ _ _ _ _ _ _ _ _ _ _ _ _ _ _ _ _ _ _ _ _ _ _ _ _ _ _ _ _
  · exact absurd rfl hk7
  · exact sd_switch C hok hn (by rw [hl]; exact hb.one (.inr (.inr rfl))) hks hnk hkc hbl hnb hcb hb.switch hwb _ _ _ _ _ _ _ _ _ _ _ _ _ _ _ _ _ _ _ _ _ _ _ _ _ _ _ _ _ _ _ _ _ _ _ _ _ _ _ _ _ _ _ _ _ _ _ _ _ _ _ _ _ _ _ _ _ _ _ _ _ _ _ _ _ _ _ _ _ _ _ _ _ _ _ _ _ _ _ _ _ _ _ _ _ _ _ _ _ _ _ _ _ _ _ _ _ _ _ _ _ _ _ _ _ _ _ _ _ _ _ _ _ _ _ _ _ _ _ _ _ _ _ _ _ _ _ _ _ _ _ _ _ _
end
section
variable {rb B : Nat} {p : FlatP} {inp : List Int} {fuel n : Nat} {s : FSt} {m : Mem} {W : World}
set_option maxRecDepth 100000 in
set_option maxHeartbeats 8000000 in
theorem side_any (hok : BodyOk rb B p inp fuel n) (hn : s.left < n) (hs : s.out.length + s.left < fuel) (hg : Good rb B p inp fuel s m W) {x k nn : Int} {ats : List Atm} {ks : List Int} {bl : List Anf} {Aa Ak Al : Option Addr} {ca ck cb : Nat} {e : PEnv} {ge : Value} (he : EnvIn rb m W e ge) (hb : BindOk p.funs.length x k nn ats ks bl.length) (hk7 : k ≠ 7)
    (ha : AtomsIn W.heap.size W Aa ats) (hac : ats.length ≤ ca) (hk : IntsIn W.heap.size W Ak ks) (hkc : ks.length ≤ ck) (hbl : BlocksIn B W Al bl) (hblc : bl.length ≤ cb) (hwb : ∀ c ∈ bl, WfA p.funs.length c) :
    Calls Tryd.prog 28 #[.pointer (some ⟨rb, 0, none⟩), .agg #[.int .i64 k, .int .i64 nn, .slice Aa ats.length ca, .slice Ak ks.length ck, .slice Al bl.length cb], ge] W (EvPost rb B p inp fuel m W (sideF p inp n k nn ats ks bl e s)) := by
  obtain ⟨i0, hinf, hz0, hz1, hz2⟩ := info_parts infoVal
  obtain ⟨pk, rfl⟩ := he.shape
  obtain ⟨W0, hW0⟩ : ∃ W0, W.alloc (.cells #[.int .i64 k, .int .i64 nn, .slice Aa ats.length ca, .slice Ak ks.length ck, .slice Al bl.length cb] 43) = W0 := ⟨_, rfl⟩
  have hb0 : Below W.heap.size W W0 := by rw [← hW0]; exact (Below.refl _ _).alloc (Nat.le_refl _) _
  have hR : RhsAt W W0 W.heap.size k nn Aa Ak Al ats.length ca ks.length ck bl.length cb := by rw [← hW0]; exact RhsAt.new _ _ _ _ _ _ _ _ _ _ _ _
  have hs0 : W0.heap.size = W.heap.size + 1 := by rw [← hW0]; simp
  obtain ⟨W1, hW1⟩ : ∃ W1, W0.alloc (.cells #[.pointer pk] 72) = W1 := ⟨_, rfl⟩
  have hb1 : Below W0.heap.size W0 W1 := by rw [← hW1]; exact (Below.refl _ _).alloc (Nat.le_refl _) _
  have hk1 : W1.cell? ⟨W0.heap.size, 0, none⟩ = some (.pointer pk) := by rw [← hW1, World.cell?_alloc_at _ _ _ _ rfl]; rfl
  have hbW : Below W.heap.size W W1 := hb0.trans (hb1.mono hb0.size)
  have h16 := ha.1
  have HA := Lib.hid (fun (j : Nat) (hj : j < ats.length) (V : World) (hV : Below W.heap.size W V) => (show ∃ b o, Aa = some ⟨b, o, none⟩ ∧ V.cell? ⟨b, o + j * 2, none⟩ = some (.bool ats[j].v) ∧ V.cell? ⟨b, o + j * 2 + 1, none⟩ = some (.int .i64 ats[j].n) from by
    rcases ha.2 with rfl | ⟨b, o, rfl, hlt, hc⟩
    · simp at hj
    · have := hc j hj
      simp only [List.getElem?_eq_getElem hj, Option.getD_some] at this
      exact ⟨b, o, rfl, (hV.cell (p := ⟨_, _, none⟩) hlt).trans this.1, (hV.cell (p := ⟨_, _, none⟩) hlt).trans this.2⟩))
  have HC := Lib.hid (fun (a : Atm) (V : World) (hV : Below W1.heap.size W1 V) => (show Calls Tryd.prog 44 #[.agg #[.bool a.v, .int .i64 a.n], .pointer (some ⟨W0.heap.size, 0, none⟩)] V (AtomPost rb m W1 V (atomP e a)) from
    atom_any hV (he.evo (Evo.below hbW)) (cell_behind hV hk1) a))
  have HX := Lib.hid (fun (V : World) (hV : Below W1.heap.size W1 V) => (show V.cell? ⟨W.heap.size, 0, none⟩ = some (.int .i64 k) ∧ V.cell? ⟨W.heap.size, 2, none⟩ = some (.slice Aa ats.length ca) from
    ⟨((hR.behind hb1).behind hV).c0, ((hR.behind hb1).behind hV).c2⟩))
  have HM := Lib.hid (fun k hk => Nat.lt_of_lt_of_le (hg.mutLt (k := k) hk) hbW.size)
  have HBW := Lib.hid (fun (V : World) (hV : Below W1.heap.size W1 V) => (show Below W.heap.size W V from hbW.trans (hV.mono hbW.size)))
  have HST := Lib.hid (fun (V : World) (hV : Below W1.heap.size W1 V) (ho : atomsP e ats = none) => (show EvPost rb B p inp fuel m W (sideF p inp n k nn ats ks bl e s) (.panicked (stopV 4)) V from by
    rw [sideF_none ho]
    have hb : Below W.heap.size W V := hbW.trans (hV.mono hbW.size)
    exact .stuck (Evo.below hb) (hg.below hb) (thrown_one _ _)))
  have HT := Lib.hid (fun (V : World) (l : List PV) (A : Option Addr) (cap : Nat) (hV : Below W1.heap.size W1 V) (ho : atomsP e ats = some l) (hr : RowZ rb m V l A) (hlc : l.length ≤ cap) (y1 y3 y5 y6 y7 y9 y10 y11 y12 y13 y14 y15 y16 y17 y18 y19 y20 y21 y22 y23 y24 y25 y26 y27 y28 y29 y30 y31 y32 y33 y34 y35 y36 y37 y38 y39 y40 y41 y42 y43 y44 y45 y46 y47 y48 y49 y50 y51 y52 y53 y54 y55 y56 y57 y58 y59 y60 y61 y62 y63 y64 y65 y66 y67 y68 y69 y70 y71 y72 y73 y74 y75 y76 y77 y78 y79 y80 y81 y82 y83 y84 y85 y86 y87 y88 y89 y90 y91 y92 y93 y94 y95 y96 y97 y98 y99 y100 y101 y102 y103 y104 y105 y106 y107 y108 y109 y110 y111 y112 y113 y114 y115 y116 y117 y118 y119 y120 y121 y122 y123 y124 y125 y126 y127 y128 y129 y130 y131 y132 y133 y134 y135 y136 y137 : Value) =>
    (show sdT.wp Tryd.prog (bodyPost Tryd.prog Tryd.f28 (EvPost rb B p inp fuel m W (sideF p inp n k nn ats ks bl e s))) { tmps := #[.pointer (some ⟨rb, 0, none⟩), y1, .pointer pk, y3, .pointer (some ⟨W.heap.size, 0, none⟩), y5, y6, y7, .slice A l.length cap, y9, y10, y11, y12, y13, y14, y15, y16, y17, y18, y19, y20, y21, y22, y23, y24, y25, y26, y27, y28, y29, y30, y31, y32, y33, y34, y35, y36, y37, y38, y39, y40, y41, y42, y43, y44, y45, y46, y47, y48, y49, y50, y51, y52, y53, y54, y55, y56, y57, y58, y59, y60, y61, y62, y63, y64, y65, y66, y67, y68, y69, y70, y71, y72, y73, y74, y75, y76, y77, y78, y79, y80, y81, y82, y83, y84, y85, y86, y87, y88, y89, y90, y91, y92, y93, y94, y95, y96, y97, y98, y99, y100, y101, y102, y103, y104, y105, y106, y107, y108, y109, y110, y111, y112, y113, y114, y115, y116, y117, y118, y119, y120, y121, y122, y123, y124, y125, y126, y127, y128, y129, y130, y131, y132, y133, y134, y135, y136, y137], defers := [] } V from by
      have hBV := hbW.trans (hV.mono hbW.size)
      rw [sideF_some ho]
      exact side_tail ⟨(hR.behind hb1).behind hV, hr, hlc, hg.below hBV, he.evo (Evo.below hBV), Evo.below hBV⟩ hok hn hs hb hk7 (atomsP_len ats l ho) ((hk.below hBV).mono hBV.size) rfl hkc (hbl.later (hBV.mono hg.Bs)) rfl hblc hwb _ _ _ _ _ _ _ _ _ _ _ _ _ _ _ _ _ _ _ _ _ _ _ _ _ _ _ _ _ _ _ _ _ _ _ _ _ _ _ _ _ _ _ _ _ _ _ _ _ _ _ _ _ _ _ _ _ _ _ _ _ _ _ _ _ _ _ _ _ _ _ _ _ _ _ _ _ _ _ _ _ _ _ _ _ _ _ _ _ _ _ _ _ _ _ _ _ _ _ _ _ _ _ _ _ _ _ _ _ _ _ _ _ _ _ _ _ _ _ _ _ _ _ _ _ _ _ _ _ _ _ _ _ _))
  obtain ⟨out, hout⟩ : ∃ o, sideF p inp n k nn ats ks bl e s = o := ⟨_, rfl⟩
  rw [hout] at HST HT ⊢
  clear hout
  obtain ⟨L, hL⟩ : ∃ L, ats.length = L := ⟨_, rfl⟩
  have HL := Lib.hid hL
  rw [hL] at h16 hac hW0 HX ⊢
  clear hL ha hg he hb hbl hwb hk hok hn hs hR hkc hblc hk7 hs0
  go_enter Tryd.func28, Tryd.ntmps28
  show (Code.seq sdR0 (Code.seq sdR1 (Code.seq sdR2 (Code.seq sdL sdT)))).wp Tryd.prog _ _ _
  obtain ⟨TT, hTT⟩ : ∃ c, sdT = c := ⟨_, rfl⟩
  obtain ⟨Q, hQ⟩ : ∃ Q, (bodyPost Tryd.prog Tryd.f28 (EvPost rb B p inp fuel m W out)) = Q := ⟨_, rfl⟩
  rw [hTT, hQ] at HT
  rw [hTT, hQ]
  have HQ := Lib.hid hQ
  clear hTT hQ
  unfold sdR0 sdR1 sdR2 sdL Tryd.f28
  dsimp only
  go_wp2_with fail
  refine (atoms_any _ _).mono ?_
  rintro en w' ⟨rfl, rfl⟩
  have hX1 := HX.out W1 (Below.refl _ _)
  obtain ⟨x0, x2⟩ := hX1
  rw [hW1]
  clear hW0 hW1 hb0 hb1 hk1 hbW
  go_wp2_with fail
  go_loopw [8, 21] (fun rv i wr => ∃ (j : Nat) (acc : List PV) (Fs : List Value), j ≤ L ∧ i = .int .i64 (j : Int) ∧ Hid (acc.length = j) ∧ Hid (FillIn rb m W1 acc wr rv Fs) ∧ Hid (atomsP e (ats.take j) = some acc)) (fun _ i _ => L + 1 - (intOf i).toNat)
  case atStart => exact ⟨0, [], [], by omega, rfl, Lib.hid rfl, Lib.hid (FillIn.start _ _ _), Lib.hid rfl⟩
  case round =>
    obtain ⟨j, acc, Fs, hj, rfl, HJ, HF, HP⟩ := hrel
    by_cases hlt : j < L
    · have hj0 : (0 : Int) ≤ (j : Int) := by omega
      have hjl : (j : Int) < (L : Int) := by omega
      have hlc : (L : Int) ≤ (ca : Int) := by omega
      have hja : j < ats.length := by rw [HL.out]; exact hlt
      obtain ⟨b, o, rfl, c0, c1⟩ := HA.out j hja wr (HBW.out _ HF.out.below)
      have HT2 := Lib.hid (atomsP_take ats j hja acc HP.out)
      have HC1 := Lib.hid (HC.out ats[j])
      generalize ats[j] = at_ at *
      obtain ⟨av, an⟩ := at_
      obtain ⟨W2, hW2⟩ : ∃ W2, wr.alloc (.cells #[.bool av, .int .i64 an] 24) = W2 := ⟨_, rfl⟩
      have hb1 : Below wr.heap.size wr W2 := by rw [← hW2]; exact (Below.refl _ _).alloc (Nat.le_refl _) _
      have r0 : W2.cell? ⟨wr.heap.size, 0, none⟩ = some (.bool av) := by rw [← hW2, World.cell?_alloc_at _ _ _ _ rfl]; rfl
      have r1 : W2.cell? ⟨wr.heap.size, 1, none⟩ = some (.int .i64 an) := by rw [← hW2, World.cell?_alloc_at _ _ _ _ rfl]; rfl
      have hbW : Below W1.heap.size W1 W2 := HF.out.below.trans (hb1.mono HF.out.below.size)
      have HCA := Lib.hid (HC1.out W2 hbW)
      have HB1 := Lib.hid hb1
      have hml : j + 1 ≤ maxLen := by unfold maxLen; omega
      have HROW := Lib.hid (fun (w' : World) (hw : Below W2.heap.size W2 w') => (show FillIn rb m W1 acc w' u8 Fs from (HF.out.behind HB1.out).behind hw))
      clear hbW hb1 HC1
      go_wp2_with (first
        | (go_at_call 44; refine HCA.out.mono ?_; rintro en w' (⟨v, T, x, hv, rfl, hrv, hw⟩ | ⟨hv, rfl, hw⟩); rotate_left; (show Q _ _ _; rw [← HQ.out]; exact ⟨rfl, HST.out _ ((HF.out.below.trans (HB1.out.mono HF.out.below.size)).trans (hw.mono (Nat.le_trans HF.out.below.size HB1.out.size))) (HT2.out.2 hv)⟩))
        | (at_builtin; refine wpList_append_own_at _ rfl _ _ 90 rfl W1.heap.size 58 i0 .nilIface 1 16 undVals hinf hz0 hz1 hz2 rfl (by decide) _ _ _ rfl (((HROW.out _ hw).row).alloc _) ⟨w'.heap.size, 0, none⟩ 1 1 [.iface T x] rfl rfl (cell_one_new _ _ _) (by simp [Value.oneCell']) (by rw [HJ.out]; exact hml) (by rw [HJ.out]; omega) (by rw [World.size_alloc]; exact Nat.le_succ_of_le (HROW.out _ hw).below.size) ?_; intro v' w1 hown' hgrow _ hat))
      have hgrow' := hgrow
      change World.grownBy _ w1 u8.ownBlock at hgrow'
      have HM2 := Lib.hid ((HROW.out _ hw).more hrv hown' hgrow')
      have HP2 := Lib.hid (HT2.out.1 v hv)
      clear hgrow hgrow' hat hown' hrv hv hw
      go_roundw
      case rel => exact ⟨j + 1, acc ++ [v], _, by omega, by go_num, Lib.hid (by simp [HJ.out]), HM2, HP2⟩
      case measure => simp [intOf]; omega
    · have hjl : ¬ (j : Int) < (L : Int) := by omega
      obtain ⟨A, cap, rfl, hcap, hrow⟩ := HF.out.whole HM.out
      have ho : atomsP e ats = some acc := by have := HP.out; rwa [List.take_of_length_le (by rw [HL.out]; omega)] at this
      have HE := Lib.hid (HT.out wr acc A cap HF.out.below ho hrow hcap)
      clear hrow ho hcap HT HA HC HST HP HF HM
      go_wp2_with fail
      exact HE.out _ _ _ _ _ _ _ _ _ _ _ _ _ _ _ _ _ _ _ _ _ _ _ _ _ _ _ _ _ _ _ _ _ _ _ _ _ _ _ _ _ _ _ _ _ _ _ _ _ _ _ _ _ _ _ _ _ _ _ _ _ _ _ _ _ _ _ _ _ _ _ _ _ _ _ _ _ _ _ _ _ _ _ _ _ _ _ _ _ _ _ _ _ _ _ _ _ _ _ _ _ _ _ _ _ _ _ _ _ _ _ _ _ _ _ _ _ _ _ _ _ _ _ _ _ _ _ _ _ _ _ _ _ _
end
end Go.Proofs.YtllakbiipdcboaaDoor

/-
  The evaluator of terms: terms.
-/
set_option linter.unusedVariables false
set_option linter.unusedSimpArgs false
namespace Go.Proofs.YtllakbiipdcboaaDoor
open Go.RowKit

section
variable {rb B : Nat} {p : FlatP} {inp : List Int} {fuel n : Nat} {s : FSt} {m : Mem} {W : World}
theorem evF_ret (funs : List FFun) (inp : List Int) {k : Nat} (hk : 0 < k) (a : Atm) (e : PEnv) (s : FSt) : evF funs inp k (.ret a) e s = match atomP e a with | some v => (.val v, s) | none => (.stuck, s) := by
  obtain ⟨k, rfl⟩ : ∃ q, k = q + 1 := ⟨k - 1, by omega⟩
  rfl
theorem evF_cut (funs : List FFun) (inp : List Int) {k : Nat} (hk : 0 < k) (x kd nn : Int) (ats : List Atm) (ks : List Int) (bl : List Anf) (rest : Anf) (e : PEnv) (s : FSt) (h : s.left = 0) : evF funs inp k (.bind x kd nn ats ks bl rest) e s = (.cut, s) := by
  obtain ⟨k, rfl⟩ : ∃ q, k = q + 1 := ⟨k - 1, by omega⟩
  unfold evF
  rw [if_pos h]
theorem evF_fix (funs : List FFun) (inp : List Int) {k : Nat} (x nn : Int) (ats : List Atm) (ks : List Int) (bl : List Anf) (rest : Anf) (e : PEnv) (s : FSt) (h : 0 < s.left) :
    evF funs inp (k + 1) (.bind x 7 nn ats ks bl rest) e s = evF funs inp k rest (groupEnv ks s.made.length e) { s with left := s.left - 1, made := s.made ++ groupMade (groupEnv ks s.made.length e) ks bl } := by
  show (if s.left = 0 then _ else _) = _
  rw [if_neg (by omega)]
  simp only [bindF, if_true]
theorem evF_side (p : FlatP) (inp : List Int) {k : Nat} (x kd nn : Int) (ats : List Atm) (ks : List Int) (bl : List Anf) (rest : Anf) (e : PEnv) (s : FSt) (h : 0 < s.left) (hk : kd ≠ 7) :
    evF p.funs inp (k + 1) (.bind x kd nn ats ks bl rest) e s = FOut.andThen (sideF p inp k kd nn ats ks bl e { s with left := s.left - 1 }) fun v s => evF p.funs inp k rest ((x, v) :: e) s := by
  show (if s.left = 0 then _ else _) = _
  rw [if_neg (by omega)]
  simp only [bindF, if_neg hk, sideF]
  cases atomsP e ats <;> rfl

theorem sideF_le (inp : List Int) (n : Nat) (k nn : Int) (ats : List Atm) (ks : List Int) (bl : List Anf) (e : PEnv) (s : FSt) : LeF s (sideF p inp n k nn ats ks bl e s).2 1 := by
  unfold sideF
  cases atomsP e ats with
  | some l => exact rhsF_le (funs := p.funs) (inp := inp) (evF_le p.funs inp n) k nn l ks bl e s
  | none => exact LeF.refl _ _
theorem WfA.tail {nf : Nat} : ∀ {t : Anf}, WfA nf t → ∀ j, WfA nf (t.tail j)
  | t, h, 0 => by rw [Anf.tail_zero]; exact h
  | .ret a, h, j + 1 => h
  | .bind _ _ _ _ _ _ r, h, j + 1 => by
    cases h with
    | bind _ _ hr => exact hr.tail j
/-- what stands behind some binds -/
structure BodyAt (rb B : Nat) (p : FlatP) (inp : List Int) (fuel n : Nat) (m : Mem) (W W0 : World) (t : Anf) (out : FOut) (j : Nat) (kv : Value) (wr : World) (e : PEnv) (s : FSt) (mj : Mem) (k : Nat) : Prop where
  env : EnvIn rb mj wr e kv
  good : Good rb B p inp fuel s mj wr
  evo : Evo rb m mj W0 wr
  out : out = evF p.funs inp k (t.tail j) e s
  lt : s.left < k
  le : k ≤ n
set_option maxRecDepth 100000 in
set_option maxHeartbeats 4000000 in
theorem term_step (hok : ∀ k, k < n → BodyOk rb B p inp fuel k) : BodyOk rb B p inp fuel n := by
  intro t e s m W ga ge hin hwt he hg hn
  obtain ⟨A, c, b, o, rfl, hc, h96, hA, hB⟩ := hin.at_
  obtain ⟨pk, rfl⟩ := he.shape
  obtain ⟨W0, hW0⟩ : ∃ W0, W.alloc (.cells #[.slice A t.len c, .bool t.last.v, .int .i64 t.last.n] 26) = W0 := ⟨_, rfl⟩
  have hb0 : Below W.heap.size W W0 := by rw [← hW0]; exact (Below.refl _ _).alloc (Nat.le_refl _) _
  have hE0 : Evo rb m m W W0 := Evo.below hb0
  have hat : At rb m W0 W.heap.size (.cells #[.slice A t.len c, .bool t.last.v, .int .i64 t.last.n] 26 (0, 0)) := by rw [← hW0]; exact at_new (fun k hk => hg.mutLt hk) _ _
  have HC := Lib.hid (fun (V : World) (m' : Mem) (hE : Evo rb m m' W0 V) => (show V.cell? ⟨W.heap.size, 0, none⟩ = some (.slice A t.len c) ∧ V.cell? ⟨W.heap.size, 1, none⟩ = some (.bool t.last.v) ∧ V.cell? ⟨W.heap.size, 2, none⟩ = some (.int .i64 t.last.n) from
    ⟨at_cell0 (hat.evo hE) rfl, at_cell0 (hat.evo hE) rfl, at_cell0 (hat.evo hE) rfl⟩))
  have c0 := ((HC.out W0 m (Evo.refl _ _ _))).1
  have HBI := Lib.hid (fun (j : Nat) (hj : j < t.len) (V : World) (m' : Mem) (hE : Evo rb m m' W0 V) =>
    (show ∃ x k nn ats ks bl Aa ca Ak ck Al cl, A = some ⟨b, o, none⟩ ∧ t.tail j = .bind x k nn ats ks bl (t.tail (j + 1)) ∧ V.cell? ⟨b, o + j * 6, none⟩ = some (.int .i64 x) ∧ V.cell? ⟨b, o + j * 6 + 1, none⟩ = some (.int .i64 k) ∧ V.cell? ⟨b, o + j * 6 + 2, none⟩ = some (.int .i64 nn) ∧
        V.cell? ⟨b, o + j * 6 + 3, none⟩ = some (.slice Aa ats.length ca) ∧ V.cell? ⟨b, o + j * 6 + 4, none⟩ = some (.slice Ak ks.length ck) ∧ V.cell? ⟨b, o + j * 6 + 5, none⟩ = some (.slice Al bl.length cl) ∧
        BindOk p.funs.length x k nn ats ks bl.length ∧ AtomsIn B V Aa ats ∧ ats.length ≤ ca ∧ IntsIn B V Ak ks ∧ ks.length ≤ ck ∧ BlocksIn B V Al bl ∧ bl.length ≤ cl ∧ (∀ c ∈ bl, WfA p.funs.length c) from by
      obtain ⟨x, k, nn, ats, ks, bl, Aa, ca, Ak, ck, Al, cl, h1, h2⟩ := hB j hj
      have hbV : Below B W V := (hb0.mono hg.Bs).trans ((hg.below hb0).stay hE)
      have hw : WfA p.funs.length (.bind x k nn ats ks bl (t.tail (j + 1))) := by rw [← h1]; exact hwt.tail j
      cases hw with
      | bind hbe hbb hbr =>
        refine ⟨x, k, nn, ats, ks, bl, Aa, ca, Ak, ck, Al, cl, hA (by omega), h1, (hbV.cell (p := ⟨_, _, none⟩) h2.lt).trans h2.c0, (hbV.cell (p := ⟨_, _, none⟩) h2.lt).trans h2.c1, (hbV.cell (p := ⟨_, _, none⟩) h2.lt).trans h2.c2, (hbV.cell (p := ⟨_, _, none⟩) h2.lt).trans h2.c3, (hbV.cell (p := ⟨_, _, none⟩) h2.lt).trans h2.c4, (hbV.cell (p := ⟨_, _, none⟩) h2.lt).trans h2.c5,
          bindOk_of hbe, h2.ha.below hbV, h2.hac, h2.hk.below hbV, h2.hkc, ⟨h2.hl8, fun q hq => ?_⟩, h2.hlc, hbb⟩
        obtain ⟨bb, oo, g0, g1, g2, e1, e2, e3, e4, e5, hbd⟩ := h2.blk q hq
        exact ⟨bb, oo, g0, g1, g2, e1, e2, (hbV.cell (p := ⟨_, _, none⟩) e2).trans e3, (hbV.cell (p := ⟨_, _, none⟩) e2).trans e4, (hbV.cell (p := ⟨_, _, none⟩) e2).trans e5, hbd.kept hbV⟩))
  have HT := Lib.hid (Anf.tail_ret t)
  have HWB := Lib.hid (hg.Bs)
  have HOK := Lib.hid hok
  have HE0 := Lib.hid hE0
  obtain ⟨out, hout⟩ : ∃ out, evF p.funs inp n t e s = out := ⟨_, rfl⟩
  have hst : BodyAt rb B p inp fuel n m W W0 t out 0 (.pointer pk) W0 e s m n := ⟨he.evo hE0, hg.below hb0, Evo.refl _ _ _, by rw [Anf.tail_zero]; exact hout.symm, hn, Nat.le_refl _⟩
  have HST := Lib.hid hst
  rw [hout]
  clear hst hout hat hB hin he hg hb0 hE0 hok hwt hn hA
  have hT64 : t.len ≤ 2000000000000 := by omega
  obtain ⟨T, hT⟩ : ∃ T, t.len = T := ⟨_, rfl⟩
  rw [hT] at hc h96 hW0 HC c0 HBI HT hT64 ⊢
  clear hT h96
  go_enter Tryd.func20, Tryd.ntmps20
  go_wp2_with fail
  go_loopw [2, 12] (fun kv iv wr => ∃ (j : Nat) (e' : PEnv) (s' : FSt) (mj : Mem) (k : Nat), j ≤ T ∧ iv = .int .i64 (j : Int) ∧ Hid (BodyAt rb B p inp fuel n m W W0 t out j kv wr e' s' mj k)) (fun _ iv _ => T + 1 - (intOf iv).toNat)
  case atStart => exact ⟨0, e, s, m, n, by omega, rfl, HST⟩
  case round =>
    obtain ⟨j, e', s', mj, k, hj, rfl, HJ⟩ := hrel
    obtain ⟨pj, rfl⟩ := HJ.out.env.shape
    obtain ⟨q0, q1, q2⟩ := HC.out wr mj HJ.out.evo
    by_cases hlt : j < T
    · obtain ⟨x, kd, nn, ats, ks, bl, Aa, ca, Ak, ck, Al, cl, rfl, htail, r0, r1, r2, r3, r4, r5, hbo, hats, hac, hks, hkc, hbl, hblc, hwb⟩ := HBI.out j hlt wr mj HJ.out.evo
      have hj0 : (0 : Int) ≤ (j : Int) := by omega
      have hjl : (j : Int) < (T : Int) := by omega
      have hjc : (T : Int) ≤ (c : Int) := by omega
      have w1 : IntKind.i64.wrap ((j : Int) + 1) = (j : Int) + 1 := by rw [IntKind.wrap_i64]; omega
      obtain ⟨W1, hW1⟩ : ∃ W1, wr.alloc (.cells #[.int .i64 x, .int .i64 kd, .int .i64 nn, .slice Aa ats.length ca, .slice Ak ks.length ck, .slice Al bl.length cl] 45) = W1 := ⟨_, rfl⟩
      have hb1 : Below wr.heap.size wr W1 := by rw [← hW1]; exact (Below.refl _ _).alloc (Nat.le_refl _) _
      have hE1 : Evo rb mj mj wr W1 := Evo.below hb1
      have hat : At rb mj W1 wr.heap.size (.cells #[.int .i64 x, .int .i64 kd, .int .i64 nn, .slice Aa ats.length ca, .slice Ak ks.length ck, .slice Al bl.length cl] 45 (0, 0)) := by rw [← hW1]; exact at_new (fun k hk => HJ.out.good.mutLt hk) _ _
      have hg1 := HJ.out.good.below hb1
      have HS1 := Lib.hid (step_any hg1)
      have HS := Lib.hid (fun (V : World) (m' : Mem) (hE : Evo rb mj m' W1 V) => (show V.cell? ⟨wr.heap.size, 0, none⟩ = some (.int .i64 x) ∧ V.cell? ⟨wr.heap.size, 1, none⟩ = some (.int .i64 kd) ∧ V.cell? ⟨wr.heap.size, 2, none⟩ = some (.int .i64 nn) ∧ V.cell? ⟨wr.heap.size, 3, none⟩ = some (.slice Aa ats.length ca) ∧ V.cell? ⟨wr.heap.size, 4, none⟩ = some (.slice Ak ks.length ck) ∧ V.cell? ⟨wr.heap.size, 5, none⟩ = some (.slice Al bl.length cl) from
        ⟨at_cell0 (hat.evo hE) rfl, at_cell0 (hat.evo hE) rfl, at_cell0 (hat.evo hE) rfl, at_cell0 (hat.evo hE) rfl, at_cell0 (hat.evo hE) rfl, at_cell0 (hat.evo hE) rfl⟩))
      obtain ⟨k, rfl⟩ : ∃ q, k = q + 1 := ⟨k - 1, by have := HJ.out.lt; omega⟩
      have HEW := Lib.hid (fun (V : World) (m' : Mem) (hE : Evo rb mj m' W1 V) => (show Evo rb m m' W V from (HE0.out.trans HJ.out.evo).trans (hE1.trans hE)))
      have HE1 := Lib.hid hE1
      have HOUT := Lib.hid (HJ.out.out.trans (congrArg (fun t => evF p.funs inp (k + 1) t e' s') htail))
      have hltk := HJ.out.lt
      have hlek := HJ.out.le
      have HENV := Lib.hid (HJ.out.env.evo hE1)
      have HBL := Lib.hid hbl
      have HAT := Lib.hid hats
      have HKS := Lib.hid hks
      have HBO := Lib.hid hbo
      have HB1 := Lib.hid (hg1.stay (Evo.refl rb mj W1))
      have HBW := Lib.hid (HJ.out.good.stay hE1)
      have HBS := Lib.hid hg1.Bs
      have HBN := Lib.hid hg1.bnd
      clear hb1 hE1 hat hg1 htail hbl hats hks hbo
      go_wp2_with fail
      refine HS1.out.mono ?_
      rintro en V2 (⟨hl, rfl, hg2, hE2⟩ | ⟨hl, rfl, hg2, hE2⟩)
      rotate_left
      · refine ⟨rfl, ?_⟩
        rw [HOUT.out, evF_cut _ _ (by omega) _ _ _ _ _ _ _ _ _ hl]
        exact .cut (HEW.out _ _ hE2) hg2 (thrown_one _ _)
      have HLEFT := Lib.hid hl
      obtain ⟨x0, x1, x2, x3, x4, x5⟩ := HS.out V2 mj hE2
      have hBV : Below B wr V2 := (HBW.out).trans ⟨hE2.os, hE2.tape, hE2.output, hE2.size, fun q hq => hE2.same q (Nat.lt_of_lt_of_le hq HBS.out) (fun hm => by have := hg2.mutB hm; omega)⟩
      have hB2 := hg2.Bs
      have hBV2 : Below B wr V2 := hBV
      by_cases hk10 : kd = 7
      · subst hk10
        have HG := Lib.hid (fixed_any hg2 nn (Aa := Aa) (na := ats.length) (ca := ca) ((HKS.out.below hBV).mono hB2) hkc (HBL.out.later hBV) hblc hwb HBO.out.fix.2.1 rfl HBO.out.fix.2.2 (HENV.out.evo hE2))
        have HG2 := Lib.hid hg2
        have HE2 := Lib.hid hE2
        clear hg2 hE2 hBV hBV2 hB2 hl
        go_wp2_with fail
        refine HG.out.mono ?_
        rintro en V3 ⟨m3, pp, rfl, hg3, hE3, hen⟩
        have HN := Lib.hid (show BodyAt rb B p inp fuel n m W W0 t out (j + 1) (.pointer pp) V3 (groupEnv ks s'.made.length e') { s' with left := s'.left - 1, made := s'.made ++ groupMade (groupEnv ks s'.made.length e') ks bl } m3 k from
          ⟨hen, hg3, HJ.out.evo.trans ((HE1.out.trans HE2.out).trans hE3), by rw [HOUT.out, evF_fix _ _ _ _ _ _ _ _ _ _ HLEFT.out], by have := HLEFT.out; show s'.left - 1 < k; omega, by omega⟩)
        clear hen hg3 hE3
        go_wp2_with fail
        go_roundw
        case rel => exact ⟨j + 1, _, _, m3, k, by omega, by go_num, HN⟩
        case measure => simp [intOf]; omega
      · have hkb : (kd == 7) = false := by simpa using hk10
        have HSI := Lib.hid (fun (V : World) (hV : Below V2.heap.size V2 V) => (show Calls Tryd.prog 28 #[.pointer (some ⟨rb, 0, none⟩), .agg #[.int .i64 kd, .int .i64 nn, .slice Aa ats.length ca, .slice Ak ks.length ck, .slice Al bl.length cl], .pointer pj] V fun en V' =>
            (∃ v s3 m3 T' y, Evo rb mj m3 W1 V' ∧ en = .returned (.iface T' y) ∧ Good rb B p inp fuel s3 m3 V' ∧ RepV rb m3 V' v (.iface T' y) ∧ sideF p inp k kd nn ats ks bl e' { s' with left := s'.left - 1 } = (.val v, s3)) ∨ (∃ ch m3, Evo rb mj m3 W1 V' ∧ en = .panicked ch ∧ EvPost rb B p inp fuel m W out (.panicked ch) V') from by
          have hEV : Evo rb mj mj V2 V := Evo.below hV
          have hBB := hBV.trans (hV.mono hB2)
          have hBV2 := Nat.le_trans hB2 hV.size
          refine (side_any (HOK.out k (by omega)) (by show s'.left - 1 < k; omega) (by have := HBN.out; show s'.out.length + (s'.left - 1) < fuel; omega) (hg2.below hV) ((HENV.out.evo hE2).evo hEV) HBO.out hk10 ((HAT.out.below hBB).mono hBV2) hac ((HKS.out.below hBB).mono hBV2) hkc
            ⟨HBL.out.1, fun q hq => ?_⟩ hblc hwb).mono fun en V' h => ?_
          · obtain ⟨bb, oo, g0, g1, g2, e1, e2, e3, e4, e5, hbd⟩ := HBL.out.2 q hq
            exact ⟨bb, oo, g0, g1, g2, e1, e2, (hBB.cell (p := ⟨_, _, none⟩) e2).trans e3, (hBB.cell (p := ⟨_, _, none⟩) e2).trans e4, (hBB.cell (p := ⟨_, _, none⟩) e2).trans e5, hbd.kept hBB⟩
          · obtain ⟨mE, hmE⟩ := h.evo
            rcases h.inv with ⟨v, s3, m3, T', y, h1, rfl, h3, h4, h5⟩ | ⟨ch, rfl, h2, h3, h4⟩
            · exact .inl ⟨v, s3, m3, T', y, hE2.trans (hEV.trans h3), rfl, h4, h5, h1⟩
            · refine .inr ⟨ch, mE, hE2.trans (hEV.trans hmE), rfl, ?_⟩
              rw [HOUT.out, evF_side _ _ _ _ _ _ _ _ _ _ _ HLEFT.out hk10]
              exact (h4 _).from_ (HEW.out _ _ (hE2.trans hEV))))
        have HE2 := Lib.hid hE2
        clear hg2 hE2 hBV hB2 hl
        go_wp2_with fail
        go_region_held2 (fun V => V.cell? ⟨wr.heap.size, 0, none⟩ = some (.int .i64 x) ∧ V.cell? ⟨wr.heap.size, 1, none⟩ = some (.int .i64 kd) ∧ V.cell? ⟨wr.heap.size, 2, none⟩ = some (.int .i64 nn) ∧ V.cell? ⟨wr.heap.size, 3, none⟩ = some (.slice Aa ats.length ca) ∧ V.cell? ⟨wr.heap.size, 4, none⟩ = some (.slice Ak ks.length ck) ∧ V.cell? ⟨wr.heap.size, 5, none⟩ = some (.slice Al bl.length cl))
          (first | exact HS.out _ _ HE2.out.drew | exact HS.out _ _ hEV | exact HS.out _ _ (hEV.trans (Evo.alloc _ _ _ _)))
          ((go_at_call 28; refine (HSI.out _ (Below.refl _ _).drew).mono ?_; rintro en V' (⟨v, s3, m3, T', y, hEV, rfl, hg3, hrv, hsv⟩ | ⟨ch, m3, hEV, rfl, hP⟩); rotate_left; exact ⟨rfl, hP⟩))
        all_goals
          have hle := sideF_le (p := p) inp k kd nn ats ks bl e' { s' with left := s'.left - 1 }
          rw [hsv] at hle
          have hle2 := hle.left
          have HN := Lib.hid (show BodyAt rb B p inp fuel n m W W0 t out (j + 1) (.pointer (some ⟨V'.heap.size, 0, none⟩)) (V'.alloc (.cells #[.int .i64 x, .iface T' y, .pointer pj] 76)) ((x, v) :: e') s3 m3 k from
            ⟨.cons (at_new (fun k hk => hg3.mutLt hk) _ _) (hrv.evo (Evo.alloc _ _ _ _)) ((HENV.out.evo hEV).evo (Evo.alloc _ _ _ _)), hg3.below ((Below.refl _ _).alloc (Nat.le_refl _) _), (HJ.out.evo.trans (HE1.out.trans hEV)).trans (Evo.alloc _ _ _ _),
              by rw [HOUT.out, evF_side _ _ _ _ _ _ _ _ _ _ _ HLEFT.out hk10, hsv]; rfl, by have := HLEFT.out; simp only at hle2; omega, by omega⟩)
          clear hle hle2 hg3 hrv hsv hEV
          go_wp2_with fail
          go_roundw
          case rel => exact ⟨j + 1, _, _, m3, k, by omega, by go_num, HN⟩
          case measure => simp [intOf]; omega
    · have hjT : j = T := by omega
      subst hjT
      have hjj : ¬ (j : Int) < (j : Int) := by omega
      have HA := Lib.hid (fun (V1 : World) (hbv : Below wr.heap.size wr V1) (hk5 : V1.cell? ⟨wr.heap.size, 0, none⟩ = some (.pointer pj)) => (show Calls Tryd.prog 44 #[.agg #[.bool t.last.v, .int .i64 t.last.n], .pointer (some ⟨wr.heap.size, 0, none⟩)] V1 (fun en V => Below wr.heap.size wr V ∧ EvPost rb B p inp fuel m W out en V) from
        (atom_any (rb := rb) (m := mj) (W := wr) (V := V1) hbv HJ.out.env hk5 t.last).mono fun en V h => by
        have ho := HJ.out.out
        rw [HT.out j (Nat.le_refl _), evF_ret _ _ (by have := HJ.out.lt; omega)] at ho
        have hE := HE0.out.trans HJ.out.evo
        rcases h with ⟨v, T', x', k1, rfl, k3, k4⟩ | ⟨k1, rfl, k4⟩
        · have k5 := hbv.trans (k4.mono hbv.size)
          refine ⟨k5, ?_⟩
          rw [ho, k1]
          exact .val (hE.trans (Evo.below k5)) (HJ.out.good.below k5) (k3.evo (Evo.below k5))
        · have k5 := hbv.trans (k4.mono hbv.size)
          refine ⟨k5, ?_⟩
          rw [ho, k1]
          exact .stuck (hE.trans (Evo.below k5)) (HJ.out.good.below k5) (thrown_one _ _)))
      have HV := Lib.hid (fun (V1 : World) (hV1 : Below wr.heap.size wr V1) => (show V1.cell? ⟨W.heap.size, 1, none⟩ = some (.bool t.last.v) ∧ V1.cell? ⟨W.heap.size, 2, none⟩ = some (.int .i64 t.last.n) from ⟨cell_behind hV1 q1, cell_behind hV1 q2⟩))
      have k1 : (wr.alloc (.cells #[.pointer pj] 72)).cell? ⟨wr.heap.size, 0, none⟩ = some (.pointer pj) := by rw [World.cell?_alloc_at _ _ _ _ rfl]; rfl
      have HK5 := Lib.hid (show (wr.alloc (.cells #[.pointer pj] 72)).cell? ⟨wr.heap.size, 0, none⟩ = some (.pointer pj) ∧ (wr.alloc (.cells #[.pointer pj] 72)).drew.cell? ⟨wr.heap.size, 0, none⟩ = some (.pointer pj) ∧ (wr.drew.alloc (.cells #[.pointer pj] 72)).cell? ⟨wr.heap.size, 0, none⟩ = some (.pointer pj) from ⟨k1, k1, k1⟩)
      clear k1 HBI HC HT HE0 HJ HOK HWB q0 hjj hj hc hT64 HST c0
      generalize t.last.v = lv at *
      generalize t.last.n = ln at *
      go_wp2_with fail
      go_region_held2 (fun V => V.cell? ⟨W.heap.size, 1, none⟩ = some (.bool lv) ∧ V.cell? ⟨W.heap.size, 2, none⟩ = some (.int .i64 ln))
        (first | exact ⟨q1, q2⟩ | exact HV.out _ hEV | exact HV.out _ (Below.refl _ _).drew | exact HV.out _ ((Below.refl _ _).alloc (Nat.le_refl _) _) | exact HV.out _ ((Below.refl _ _).drew.alloc (Nat.le_refl _) _) | exact HV.out _ ((Below.refl _ _).alloc (Nat.le_refl _) _).drew)
        ((first
          | (go_at_call 29; refine Calls.mono (atoms_any _ _) ?_; rintro en w' ⟨rfl, rfl⟩)
          | (go_at_call 44; refine Calls.mono (HA.out _ (by first | exact (Below.refl _ _).alloc (Nat.le_refl _) _ | exact (Below.refl _ _).drew.alloc (Nat.le_refl _) _ | exact ((Below.refl _ _).alloc (Nat.le_refl _) _).drew) (by first | exact HK5.out.1 | exact HK5.out.2.1 | exact HK5.out.2.2)) ?_; rintro en V' ⟨hEV, h⟩; rcases h.ends with ⟨g', rfl, hP⟩ | ⟨ch, rfl, hP⟩; rotate_left; exact ⟨rfl, hP⟩)))
      all_goals
        go_wp2_with fail
        go_ret
        exact hP
end
end Go.Proofs.YtllakbiipdcboaaDoor

/-
  The evaluator of terms: bodies to whatever depth; a run's end.
-/
set_option linter.unusedVariables false
set_option linter.unusedSimpArgs false
namespace Go.Proofs.YtllakbiipdcboaaDoor
open Go.RowKit

theorem term_ok (rb B : Nat) (p : FlatP) (inp : List Int) (fuel : Nat) (n : Nat) : BodyOk rb B p inp fuel n := by
  induction n using Nat.strongRecOn with
  | _ n ih => exact term_step ih

/-! ### the deferred closure -/
theorem whole1_idle (rv rb : Nat) (x : Value) (V : World) (hr : V.cell? ⟨rv, 0, none⟩ = some (.pointer (some ⟨rb, 0, none⟩))) (h2 : V.cell? ⟨rb, 2, none⟩ = some (.int .i64 0)) (f2 : V.frozen? ⟨rb, 2, none⟩ = false) :
    CallsD Tryd.prog 24 #[.pointer (some ⟨rv, 0, none⟩)] .returning V fun e u' w' => e = .returned (.tuple #[]) ∧ u' = .returning ∧ w' = V.setCell ⟨rb, 2, none⟩ (.int .i64 1) := by
  refine callsD_of_wpS Tryd.func24 rfl fun c₀ cs hu => ?_
  apply wpS_seq
  apply wpS_region
  simp [wpOpsS, go_sem, recoverD, hu, Tryd.ntmps24, Exit.thenS]
  refine wpS_of_wp (Code.wp_mono (Q := fun e a w' => e = .normal ∧ a.defers = [] ∧ w' = V.setCell ⟨rb, 2, none⟩ (.int .i64 1)) ?_ ?_)
  · rintro e a w' ⟨rfl, h1, rfl⟩
    cases c₀
    simp_all [bodyPostS, results, Tryd.results24]
  simp only [Array.replicate_succ, Array.replicate_zero, List.push_toArray, List.setIfInBounds_toArray, List.set_cons_zero, List.set_cons_succ, List.append_toArray, List.nil_append, List.cons_append]
  clear hu
  go_wp2_with fail

theorem whole1_stop (rv rb : Nat) (k : Int) (older : List PanicEntry) (V : World) (hr : V.cell? ⟨rv, 0, none⟩ = some (.pointer (some ⟨rb, 0, none⟩))) (h2 : V.cell? ⟨rb, 2, none⟩ = some (.int .i64 0)) (f2 : V.frozen? ⟨rb, 2, none⟩ = false) :
    CallsD Tryd.prog 24 #[.pointer (some ⟨rv, 0, none⟩)] (.panicking ({ v := .iface 68 (.agg #[.int .i64 k]), recovered := false } :: older)) V
      fun e u' w' => e = .returned (.tuple #[]) ∧ u' = .panicking ({ v := .iface 68 (.agg #[.int .i64 k]), recovered := true } :: older) ∧ w' = (V.alloc (.cells #[.int .i64 k] 68)).setCell ⟨rb, 2, none⟩ (.int .i64 k) := by
  have hrl := World.block_lt_of_cell? _ _ hr
  have h2l := World.block_lt_of_cell? _ _ h2
  have hn := World.new_ne _ _ hr
  have hn' := World.new_ne _ _ h2
  refine callsD_of_wpS Tryd.func24 rfl fun c₀ cs hu => ?_
  apply wpS_seq
  apply wpS_region
  simp [wpOpsS, go_sem, recoverD, hu, Tryd.ntmps24, Exit.thenS]
  refine wpS_of_wp (Code.wp_mono (Q := fun e a w' => e = .normal ∧ a.defers = [] ∧ w' = (V.alloc (.cells #[.int .i64 k] 68)).setCell ⟨rb, 2, none⟩ (.int .i64 k)) ?_ ?_)
  · rintro e a w' ⟨rfl, h1, rfl⟩
    cases c₀
    simp_all [bodyPostS, results, Tryd.results24]
  simp only [Array.replicate_succ, Array.replicate_zero, List.push_toArray, List.setIfInBounds_toArray, List.set_cons_zero, List.set_cons_succ, List.append_toArray, List.nil_append, List.cons_append]
  clear hu
  go_wp2_with fail

theorem whole1_raised (rv rb : Nat) (k : Int) (T : TypeId) (y : Value) (older : List PanicEntry) (V : World) (hr : V.cell? ⟨rv, 0, none⟩ = some (.pointer (some ⟨rb, 0, none⟩))) (h2 : V.cell? ⟨rb, 2, none⟩ = some (.int .i64 0)) (f2 : V.frozen? ⟨rb, 2, none⟩ = false) (h3 : V.cell? ⟨rb, 3, none⟩ = some (.int .i64 0)) (f3 : V.frozen? ⟨rb, 3, none⟩ = false) (hne : rv ≠ rb)
    (hkey : Calls Tryd.prog 25 #[.iface T y] ((V.setCell ⟨rb, 2, none⟩ (.int .i64 4)).alloc (.cells #[.iface T y] 70)) fun e w' => e = .returned (.int .i64 k) ∧ (V.setCell ⟨rb, 2, none⟩ (.int .i64 4)).alloc (.cells #[.iface T y] 70) = w') :
    CallsD Tryd.prog 24 #[.pointer (some ⟨rv, 0, none⟩)] (.panicking ({ v := .iface 70 (.agg #[.iface T y]), recovered := false } :: older)) V
      fun e u' w' => e = .returned (.tuple #[]) ∧ u' = .panicking ({ v := .iface 70 (.agg #[.iface T y]), recovered := true } :: older) ∧
        w' = if 0 ≤ k then (((V.setCell ⟨rb, 2, none⟩ (.int .i64 4)).alloc (.cells #[.iface T y] 70)).setCell ⟨rb, 2, none⟩ (.int .i64 2)).setCell ⟨rb, 3, none⟩ (.int .i64 k) else (V.setCell ⟨rb, 2, none⟩ (.int .i64 4)).alloc (.cells #[.iface T y] 70) := by
  have hrl := World.block_lt_of_cell? _ _ hr
  have h2l := World.block_lt_of_cell? _ _ h2
  have hn := World.new_ne _ _ hr
  have hn' := World.new_ne _ _ h2
  refine callsD_of_wpS Tryd.func24 rfl fun c₀ cs hu => ?_
  apply wpS_seq
  apply wpS_region
  simp [wpOpsS, go_sem, recoverD, hu, Tryd.ntmps24, Exit.thenS]
  refine wpS_of_wp (Code.wp_mono (Q := fun e a w' => e = .normal ∧ a.defers = [] ∧ w' = if 0 ≤ k then (((V.setCell ⟨rb, 2, none⟩ (.int .i64 4)).alloc (.cells #[.iface T y] 70)).setCell ⟨rb, 2, none⟩ (.int .i64 2)).setCell ⟨rb, 3, none⟩ (.int .i64 k) else (V.setCell ⟨rb, 2, none⟩ (.int .i64 4)).alloc (.cells #[.iface T y] 70)) ?_ ?_)
  · rintro e a w' ⟨rfl, h1, rfl⟩
    cases c₀
    simp_all [bodyPostS, results, Tryd.results24]
  simp only [Array.replicate_succ, Array.replicate_zero, List.push_toArray, List.setIfInBounds_toArray, List.set_cons_zero, List.set_cons_succ, List.append_toArray, List.nil_append, List.cons_append]
  have HK := Lib.hid hkey
  clear hu hkey
  by_cases hk : 0 ≤ k
  · rw [if_pos hk]
    go_wp2_with (go_at_call 25; refine HK.out.mono ?_; rintro e w' ⟨rfl, rfl⟩)
  · rw [if_neg hk]
    have hk' : k < 0 := by omega
    go_wp2_with (go_at_call 25; refine HK.out.mono ?_; rintro e w' ⟨rfl, rfl⟩)

/-- nothing turns but the run's record, of what stood -/
structure Rest (rb : Nat) (V V' : World) : Prop where
  os : V'.os = V.os
  tape : V'.tape = V.tape
  output : V'.output = V.output
  size : V.heap.size ≤ V'.heap.size
  same : ∀ k, k < V.heap.size → k ≠ rb → V'.heap[k]? = V.heap[k]?
theorem Rest.refl (rb : Nat) (V : World) : Rest rb V V := ⟨rfl, rfl, rfl, Nat.le_refl _, fun _ _ _ => rfl⟩
theorem Rest.alloc {rb : Nat} {V V' : World} (h : Rest rb V V') (o : Obj) : Rest rb V (V'.alloc o) :=
  have hb : Below V'.heap.size V' (V'.alloc o) := (Below.refl _ _).alloc (Nat.le_refl _) _
  ⟨h.os, h.tape, h.output, Nat.le_trans h.size hb.size, fun k hk hn => (hb.block k (Nat.lt_of_lt_of_le hk h.size)).trans (h.same k hk hn)⟩
theorem Rest.set {rb : Nat} {V V' : World} (h : Rest rb V V') (o : Nat) (v : Value) : Rest rb V (V'.setCell ⟨rb, o, none⟩ v) :=
  ⟨h.os, h.tape, h.output, by simpa [World.setCell] using h.size, fun k hk hn => (heap_set_ne hn _ _).trans (h.same k hk hn)⟩
theorem Rest.evo {rb : Nat} {V V' V2 : World} (h : Rest rb V V') {m m' : Mem} (hk : Evo rb m m' V' V2) (hm : ∀ k, m.mut rb k → k = rb ∨ V.heap.size ≤ k) : Rest rb V V2 :=
  ⟨hk.os.trans h.os, hk.tape.trans h.tape, hk.output.trans h.output, Nat.le_trans h.size hk.size, fun k hlt hn => (hk.same k (Nat.lt_of_lt_of_le hlt h.size) (fun hx => by rcases hm k hx with e | e; exact hn e; omega)).trans (h.same k hlt hn)⟩
def WholePost (rb B : Nat) (V : World) (pe : PEnd) (e : Ending) (V' : World) : Prop :=
  e = .returned (.tuple #[]) ∧ Rest rb V V' ∧ ∃ x0 x1 vo, V'.heap[rb]? = some (.cells #[x0, x1, .int .i64 pe.kind, .int .i64 pe.n, vo, .int .i64 pe.steps] 55 (0, 0)) ∧ V'.ownsRow B 3 1 vo pe.out.length (pe.out.map (Value.int .i64))

def m0 : Mem := ⟨[], [], .slice none 0 0⟩
theorem m0_mut {rb k : Nat} (h : m0.mut rb k) : k = rb := by
  rcases h with h | h | h
  · exact h
  · simp [m0, Value.ownBlock] at h
  · simp [m0] at h

end Go.Proofs.YtllakbiipdcboaaDoor
