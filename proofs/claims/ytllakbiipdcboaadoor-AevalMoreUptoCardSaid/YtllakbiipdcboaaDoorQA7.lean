/-
  2 texts of this seat in one: PS1 PS2.
-/
import Derived.Test.YtllakbiipdcboaaDoorQA5
import Derived.Test.YtllakbiipdcboaaDoorQA6
/-
  The evaluator of terms: a right side behind its atoms: atoms, blocks, functions, fields.
-/
set_option linter.unusedVariables false
set_option linter.unusedSimpArgs false
namespace Go.Proofs.YtllakbiipdcboaaDoor
open Go.RowKit

section
variable {rb B : Nat} {p : FlatP} {inp : List Int} {fuel n : Nat} {s : FSt} {m : Mem} {W : World}
theorem RowZ.one {l : List PV} {A : Option Addr} (h : RowZ rb m W l A) (hl : l.length = 1) : ∃ a g T x, l = [a] ∧ A = some ⟨g, 0, none⟩ ∧ g < W.heap.size ∧ ¬ m.mut rb g ∧ W.cell? ⟨g, 0, none⟩ = some (.iface T x) ∧ RepV rb m W a (.iface T x) := by
  match l, hl with
  | [a], _ =>
    obtain ⟨g, F, h1, h2, h3, h4, h5⟩ := h (by simp)
    have hr := h5 0 (by simp)
    obtain ⟨T, x, hF⟩ := hr.shape
    rw [hF] at hr
    exact ⟨a, g, T, x, rfl, h1, h2, h3, by rw [h4 0 (by simp), hF], hr⟩
theorem RowZ.two {l : List PV} {A : Option Addr} (h : RowZ rb m W l A) (hl : l.length = 2) : ∃ a b g T x U y, l = [a, b] ∧ A = some ⟨g, 0, none⟩ ∧ g < W.heap.size ∧ ¬ m.mut rb g ∧ W.cell? ⟨g, 0, none⟩ = some (.iface T x) ∧ W.cell? ⟨g, 1, none⟩ = some (.iface U y) ∧ RepV rb m W a (.iface T x) ∧ RepV rb m W b (.iface U y) := by
  match l, hl with
  | [a, b], _ =>
    obtain ⟨g, F, h1, h2, h3, h4, h5⟩ := h (by simp)
    have hr := h5 0 (by simp)
    have hr1 := h5 1 (by simp)
    obtain ⟨T, x, hF⟩ := hr.shape
    obtain ⟨U, y, hF1⟩ := hr1.shape
    rw [hF] at hr
    rw [hF1] at hr1
    exact ⟨a, b, g, T, x, U, y, rfl, h1, h2, h3, by rw [h4 0 (by simp), hF], by rw [h4 1 (by simp), hF1], hr, hr1⟩
/-- what a right side comes to -/
def sideF (p : FlatP) (inp : List Int) (n : Nat) (k nn : Int) (ats : List Atm) (ks : List Int) (bl : List Anf) (e : PEnv) (s : FSt) : FOut :=
  match atomsP e ats with
  | some l => rhsF p.funs inp (evF p.funs inp n) k nn l ks bl e s
  | none => (.stuck, s)
theorem sideF_some {k nn : Int} {ats : List Atm} {ks : List Int} {bl : List Anf} {e : PEnv} {l : List PV} (h : atomsP e ats = some l) : sideF p inp n k nn ats ks bl e s = rhsF p.funs inp (evF p.funs inp n) k nn l ks bl e s := by unfold sideF; rw [h]
theorem sideF_none {k nn : Int} {ats : List Atm} {ks : List Int} {bl : List Anf} {e : PEnv} (h : atomsP e ats = none) : sideF p inp n k nn ats ks bl e s = (.stuck, s) := by unfold sideF; rw [h]

end
/-- the code behind the loop over the atoms -/
noncomputable def sdT : Code := match Tryd.f28.body with
  | some (.seq _ (.seq _ (.seq _ (.seq _ c)))) => c
  | _ => .skip
/-- what stands behind the atoms -/
structure SCtx (rb B : Nat) (p : FlatP) (inp : List Int) (fuel : Nat) (m : Mem) (W : World) (s : FSt) (V : World) (X : Nat) (k nn : Int) (Aa Ak Al A : Option Addr) (na ca nk ck nb cb cap : Nat) (l : List PV) (e : PEnv) (ge : Value) : Prop where
  rhs : RhsAt W V X k nn Aa Ak Al na ca nk ck nb cb
  row : RowZ rb m V l A
  lc : l.length ≤ cap
  good : Good rb B p inp fuel s m V
  env : EnvIn rb m V e ge
  evo : Evo rb m m W V
section
variable {rb B : Nat} {p : FlatP} {inp : List Int} {fuel n : Nat} {s : FSt} {m : Mem} {W V : World} {X : Nat} {nn : Int} {Aa Ak Al A : Option Addr} {na ca nk ck nb cb cap : Nat} {l : List PV} {ks : List Int} {bl : List Anf} {e : PEnv} {pk : Option Addr}
set_option maxRecDepth 100000 in
set_option maxHeartbeats 8000000 in
theorem sd_atom (C : SCtx rb B p inp fuel m W s V X 1 nn Aa Ak Al A na ca nk ck nb cb cap l e (.pointer pk)) (hl : l.length = 1) (u1 u3 u5 u6 u7 u9 u10 u11 u12 u13 u14 u15 u16 u17 u18 u19 u20 u21 u22 u23 u24 u25 u26 u27 u28 u29 u30 u31 u32 u33 u34 u35 u36 u37 u38 u39 u40 u41 u42 u43 u44 u45 u46 u47 u48 u49 u50 u51 u52 u53 u54 u55 u56 u57 u58 u59 u60 u61 u62 u63 u64 u65 u66 u67 u68 u69 u70 u71 u72 u73 u74 u75 u76 u77 u78 u79 u80 u81 u82 u83 u84 u85 u86 u87 u88 u89 u90 u91 u92 u93 u94 u95 u96 u97 u98 u99 u100 u101 u102 u103 u104 u105 u106 u107 u108 u109 u110 u111 u112 u113 u114 u115 u116 u117 u118 u119 u120 u121 u122 u123 u124 u125 u126 u127 u128 u129 u130 u131 u132 u133 u134 u135 u136 u137 : Value) :
    sdT.wp Tryd.prog (bodyPost Tryd.prog Tryd.f28 (EvPost rb B p inp fuel m W (rhsF p.funs inp (evF p.funs inp n) 1 nn l ks bl e s))) { tmps := #[.pointer (some ⟨rb, 0, none⟩), u1, .pointer pk, u3, .pointer (some ⟨X, 0, none⟩), u5, u6, u7, .slice A l.length cap, u9, u10, u11, u12, u13, u14, u15, u16, u17, u18, u19, u20, u21, u22, u23, u24, u25, u26, u27, u28, u29, u30, u31, u32, u33, u34, u35, u36, u37, u38, u39, u40, u41, u42, u43, u44, u45, u46, u47, u48, u49, u50, u51, u52, u53, u54, u55, u56, u57, u58, u59, u60, u61, u62, u63, u64, u65, u66, u67, u68, u69, u70, u71, u72, u73, u74, u75, u76, u77, u78, u79, u80, u81, u82, u83, u84, u85, u86, u87, u88, u89, u90, u91, u92, u93, u94, u95, u96, u97, u98, u99, u100, u101, u102, u103, u104, u105, u106, u107, u108, u109, u110, u111, u112, u113, u114, u115, u116, u117, u118, u119, u120, u121, u122, u123, u124, u125, u126, u127, u128, u129, u130, u131, u132, u133, u134, u135, u136, u137], defers := [] } V := by
  obtain ⟨c0, c1, c2, c3, c4, cl⟩ := C.rhs
  obtain ⟨a, g, T, x, hla, rfl, h3, h4, q0, h6⟩ := C.row.one hl
  have HE := Lib.hid (show EvPost rb B p inp fuel m W (rhsF p.funs inp (evF p.funs inp n) 1 nn l ks bl e s) (.returned (.iface T x)) V from by
    rw [show (rhsF p.funs inp (evF p.funs inp n) 1 nn l ks bl e s) = (.val a, s) by simp [rhsF, hla]]
    exact .val C.evo C.good h6)
  have hlc := C.lc
  rw [hl] at hlc ⊢
  obtain ⟨out, hout⟩ : ∃ o, (rhsF p.funs inp (evF p.funs inp n) 1 nn l ks bl e s) = o := ⟨_, rfl⟩
  rw [hout] at HE ⊢
  clear hout
  obtain ⟨Q, hQ⟩ : ∃ Q, (bodyPost Tryd.prog Tryd.f28 (EvPost rb B p inp fuel m W out)) = Q := ⟨_, rfl⟩
  have HQ := Lib.hid hQ
  rw [hQ]
  clear hQ C hla h3 h4 h6
  unfold sdT Tryd.f28
  dsimp only
  go_wp2_with fail
  rw [← HQ.out]
  go_ret
  exact HE.out
set_option maxRecDepth 100000 in
set_option maxHeartbeats 8000000 in
theorem sd_block (C : SCtx rb B p inp fuel m W s V X 3 nn Aa Ak Al A na ca nk ck nb cb cap l e (.pointer pk)) (h1 : 1 ≤ l.length ∧ l.length ≤ 8) (u1 u3 u5 u6 u7 u9 u10 u11 u12 u13 u14 u15 u16 u17 u18 u19 u20 u21 u22 u23 u24 u25 u26 u27 u28 u29 u30 u31 u32 u33 u34 u35 u36 u37 u38 u39 u40 u41 u42 u43 u44 u45 u46 u47 u48 u49 u50 u51 u52 u53 u54 u55 u56 u57 u58 u59 u60 u61 u62 u63 u64 u65 u66 u67 u68 u69 u70 u71 u72 u73 u74 u75 u76 u77 u78 u79 u80 u81 u82 u83 u84 u85 u86 u87 u88 u89 u90 u91 u92 u93 u94 u95 u96 u97 u98 u99 u100 u101 u102 u103 u104 u105 u106 u107 u108 u109 u110 u111 u112 u113 u114 u115 u116 u117 u118 u119 u120 u121 u122 u123 u124 u125 u126 u127 u128 u129 u130 u131 u132 u133 u134 u135 u136 u137 : Value) :
    sdT.wp Tryd.prog (bodyPost Tryd.prog Tryd.f28 (EvPost rb B p inp fuel m W (rhsF p.funs inp (evF p.funs inp n) 3 nn l ks bl e s))) { tmps := #[.pointer (some ⟨rb, 0, none⟩), u1, .pointer pk, u3, .pointer (some ⟨X, 0, none⟩), u5, u6, u7, .slice A l.length cap, u9, u10, u11, u12, u13, u14, u15, u16, u17, u18, u19, u20, u21, u22, u23, u24, u25, u26, u27, u28, u29, u30, u31, u32, u33, u34, u35, u36, u37, u38, u39, u40, u41, u42, u43, u44, u45, u46, u47, u48, u49, u50, u51, u52, u53, u54, u55, u56, u57, u58, u59, u60, u61, u62, u63, u64, u65, u66, u67, u68, u69, u70, u71, u72, u73, u74, u75, u76, u77, u78, u79, u80, u81, u82, u83, u84, u85, u86, u87, u88, u89, u90, u91, u92, u93, u94, u95, u96, u97, u98, u99, u100, u101, u102, u103, u104, u105, u106, u107, u108, u109, u110, u111, u112, u113, u114, u115, u116, u117, u118, u119, u120, u121, u122, u123, u124, u125, u126, u127, u128, u129, u130, u131, u132, u133, u134, u135, u136, u137], defers := [] } V := by
  obtain ⟨c0, c1, c2, c3, c4, cl⟩ := C.rhs
  have HE := Lib.hid (show EvPost rb B p inp fuel m W (rhsF p.funs inp (evF p.funs inp n) 3 nn l ks bl e s) (.returned (.iface 89 (.pointer (some ⟨V.heap.size, 0, none⟩)))) (V.alloc (.cells #[.int .i64 nn, .slice A l.length cap] 92)) from by
    obtain ⟨g, F, rfl, h2, h3, h4, h5⟩ := C.row (by omega)
    have hgV := C.good
    have ha : Evo rb m m V (V.alloc (.cells #[.int .i64 nn, .slice (some ⟨g, 0, none⟩) l.length cap] 92)) := Evo.alloc _ _ _ _
    rw [show (rhsF p.funs inp (evF p.funs inp n) 3 nn l ks bl e s) = (.val (.blk nn l), s) by simp [rhsF]]
    exact .val (C.evo.trans ha) (hgV.below ((Below.refl _ _).alloc (Nat.le_refl _) _)) (.blk (at_new (fun k hk => hgV.mutLt hk) _ _) (Nat.lt_of_lt_of_le h2 ha.size) h3 C.lc (by omega) (by omega) (fun j hj => (cell_of_heap (ha.same g h2 h3) j).trans (h4 j hj)) (fun j hj => (h5 j hj).evo ha)))
  obtain ⟨out, hout⟩ : ∃ o, (rhsF p.funs inp (evF p.funs inp n) 3 nn l ks bl e s) = o := ⟨_, rfl⟩
  rw [hout] at HE ⊢
  clear hout
  obtain ⟨Q, hQ⟩ : ∃ Q, (bodyPost Tryd.prog Tryd.f28 (EvPost rb B p inp fuel m W out)) = Q := ⟨_, rfl⟩
  have HQ := Lib.hid hQ
  rw [hQ]
  clear hQ C h1
  unfold sdT Tryd.f28
  dsimp only
  go_wp2_with fail
  rw [← HQ.out]
  go_ret
  exact HE.out
set_option maxRecDepth 100000 in
set_option maxHeartbeats 8000000 in
theorem sd_fn (C : SCtx rb B p inp fuel m W s V X 5 nn Aa Ak Al A na ca nk ck nb cb cap l e (.pointer pk)) (hbl : BlocksIn B V Al bl) (hnb : nb = bl.length) (h1 : bl.length = 1) (hcb : nb ≤ cb) (hwb : ∀ c ∈ bl, WfA p.funs.length c) (u1 u3 u5 u6 u7 u9 u10 u11 u12 u13 u14 u15 u16 u17 u18 u19 u20 u21 u22 u23 u24 u25 u26 u27 u28 u29 u30 u31 u32 u33 u34 u35 u36 u37 u38 u39 u40 u41 u42 u43 u44 u45 u46 u47 u48 u49 u50 u51 u52 u53 u54 u55 u56 u57 u58 u59 u60 u61 u62 u63 u64 u65 u66 u67 u68 u69 u70 u71 u72 u73 u74 u75 u76 u77 u78 u79 u80 u81 u82 u83 u84 u85 u86 u87 u88 u89 u90 u91 u92 u93 u94 u95 u96 u97 u98 u99 u100 u101 u102 u103 u104 u105 u106 u107 u108 u109 u110 u111 u112 u113 u114 u115 u116 u117 u118 u119 u120 u121 u122 u123 u124 u125 u126 u127 u128 u129 u130 u131 u132 u133 u134 u135 u136 u137 : Value) :
    sdT.wp Tryd.prog (bodyPost Tryd.prog Tryd.f28 (EvPost rb B p inp fuel m W (rhsF p.funs inp (evF p.funs inp n) 5 nn l ks bl e s))) { tmps := #[.pointer (some ⟨rb, 0, none⟩), u1, .pointer pk, u3, .pointer (some ⟨X, 0, none⟩), u5, u6, u7, .slice A l.length cap, u9, u10, u11, u12, u13, u14, u15, u16, u17, u18, u19, u20, u21, u22, u23, u24, u25, u26, u27, u28, u29, u30, u31, u32, u33, u34, u35, u36, u37, u38, u39, u40, u41, u42, u43, u44, u45, u46, u47, u48, u49, u50, u51, u52, u53, u54, u55, u56, u57, u58, u59, u60, u61, u62, u63, u64, u65, u66, u67, u68, u69, u70, u71, u72, u73, u74, u75, u76, u77, u78, u79, u80, u81, u82, u83, u84, u85, u86, u87, u88, u89, u90, u91, u92, u93, u94, u95, u96, u97, u98, u99, u100, u101, u102, u103, u104, u105, u106, u107, u108, u109, u110, u111, u112, u113, u114, u115, u116, u117, u118, u119, u120, u121, u122, u123, u124, u125, u126, u127, u128, u129, u130, u131, u132, u133, u134, u135, u136, u137], defers := [] } V := by
  obtain ⟨c0, c1, c2, c3, c4, cl⟩ := C.rhs
  obtain ⟨bb, oo, g0, g1, g2, rfl, hbb, d0, d1, d2, hbd⟩ := hbl.2 0 (by omega)
  simp only [Nat.zero_mul, Nat.add_zero] at d0 d1 d2
  obtain ⟨A0, n0, e0, b1, k1, hsh⟩ := hbd.shape
  simp only [Array.mk.injEq, List.cons.injEq, and_true] at hsh
  obtain ⟨rfl, rfl, rfl⟩ := hsh
  have hX := World.block_lt_of_cell? _ _ c1
  have HE := Lib.hid (fun (V1 : World) (hV1 : Below V.heap.size V V1) => (show EvPost rb B p inp fuel m W (rhsF p.funs inp (evF p.funs inp n) 5 nn l ks bl e s) (.returned (.iface 94 (.pointer (some ⟨V1.heap.size, 0, none⟩)))) (V1.alloc (.cells #[.int .i64 nn, .slice A0 n0 e0, .bool b1, .int .i64 k1, .pointer pk] 96)) from by
    have hg1 := C.good.below hV1
    have hE1 : Evo rb m m V V1 := Evo.below hV1
    obtain ⟨q1, q2, q3⟩ := hg1.addFn (f := ⟨nn, bl[0], e⟩) (hbd.kept (hV1.mono C.good.Bs)) (hwb _ (List.getElem_mem _)) (C.env.evo hE1)
    rw [show (rhsF p.funs inp (evF p.funs inp n) 5 nn l ks bl e s) = (.val (.fn s.made.length), { s with made := s.made ++ [⟨nn, bl[0], e⟩] }) by simp [rhsF, h1]]
    exact .val ((C.evo.trans hE1).trans q2) q1 q3))
  have HS := Lib.hid (fun (V1 : World) (hV1 : Below V.heap.size V V1) => (show V1.cell? ⟨X, 1, none⟩ = some (.int .i64 nn) ∧ V1.cell? ⟨X, 4, none⟩ = some (.slice (some ⟨bb, oo, none⟩) nb cb) ∧ V1.cell? ⟨bb, oo, none⟩ = some (.slice A0 n0 e0) ∧ V1.cell? ⟨bb, oo + 1, none⟩ = some (.bool b1) ∧ V1.cell? ⟨bb, oo + 2, none⟩ = some (.int .i64 k1) from
    ⟨cell_behind hV1 c1, cell_behind hV1 c4, cell_behind hV1 d0, cell_behind hV1 d1, cell_behind hV1 d2⟩))
  have hn1 : nb = 1 := by omega
  rw [hn1] at c4 HS hcb
  obtain ⟨out, hout⟩ : ∃ o, (rhsF p.funs inp (evF p.funs inp n) 5 nn l ks bl e s) = o := ⟨_, rfl⟩
  rw [hout] at HE ⊢
  clear hout
  obtain ⟨Q, hQ⟩ : ∃ Q, (bodyPost Tryd.prog Tryd.f28 (EvPost rb B p inp fuel m W out)) = Q := ⟨_, rfl⟩
  have HQ := Lib.hid hQ
  rw [hQ]
  clear hQ C hbl hnb h1 hwb hbd hn1
  unfold sdT Tryd.f28
  dsimp only
  go_wp2_with fail
  rw [← HQ.out]
  go_region_held2 (fun V1 => V1.cell? ⟨X, 1, none⟩ = some (.int .i64 nn) ∧ V1.cell? ⟨X, 4, none⟩ = some (.slice (some ⟨bb, oo, none⟩) 1 cb) ∧ V1.cell? ⟨bb, oo, none⟩ = some (.slice A0 n0 e0) ∧ V1.cell? ⟨bb, oo + 1, none⟩ = some (.bool b1) ∧ V1.cell? ⟨bb, oo + 2, none⟩ = some (.int .i64 k1))
    (first | exact HS.out _ (Below.refl _ _).drew | exact HS.out _ ((Below.refl _ _).alloc (Nat.le_refl _) _).drew | exact HS.out _ ((Below.refl _ _).drew.alloc (Nat.le_refl _) _)) (fail)
  all_goals
    simp only [Exit.then]
    refine (‹∀ (a : Act) (w : World), Code.wp Tryd.prog _ _ a w → _›) _ _ ?_
    go_wp2_with fail
    (try rw [← HQ.out])
    go_ret
    first | exact HE.out _ (Below.refl _ _) | exact HE.out V.drew (Below.refl _ _).drew
set_option maxRecDepth 100000 in
set_option maxHeartbeats 8000000 in
theorem sd_field_none (C : SCtx rb B p inp fuel m W s V X 4 nn Aa Ak Al A na ca nk ck nb cb cap l e (.pointer pk)) (hl : l.length = 1) {a : PV} (hla : l = [a]) (hno : ∀ t k, a ≠ .blk t k) (u1 u3 u5 u6 u7 u9 u10 u11 u12 u13 u14 u15 u16 u17 u18 u19 u20 u21 u22 u23 u24 u25 u26 u27 u28 u29 u30 u31 u32 u33 u34 u35 u36 u37 u38 u39 u40 u41 u42 u43 u44 u45 u46 u47 u48 u49 u50 u51 u52 u53 u54 u55 u56 u57 u58 u59 u60 u61 u62 u63 u64 u65 u66 u67 u68 u69 u70 u71 u72 u73 u74 u75 u76 u77 u78 u79 u80 u81 u82 u83 u84 u85 u86 u87 u88 u89 u90 u91 u92 u93 u94 u95 u96 u97 u98 u99 u100 u101 u102 u103 u104 u105 u106 u107 u108 u109 u110 u111 u112 u113 u114 u115 u116 u117 u118 u119 u120 u121 u122 u123 u124 u125 u126 u127 u128 u129 u130 u131 u132 u133 u134 u135 u136 u137 : Value) :
    sdT.wp Tryd.prog (bodyPost Tryd.prog Tryd.f28 (EvPost rb B p inp fuel m W (rhsF p.funs inp (evF p.funs inp n) 4 nn l ks bl e s))) { tmps := #[.pointer (some ⟨rb, 0, none⟩), u1, .pointer pk, u3, .pointer (some ⟨X, 0, none⟩), u5, u6, u7, .slice A l.length cap, u9, u10, u11, u12, u13, u14, u15, u16, u17, u18, u19, u20, u21, u22, u23, u24, u25, u26, u27, u28, u29, u30, u31, u32, u33, u34, u35, u36, u37, u38, u39, u40, u41, u42, u43, u44, u45, u46, u47, u48, u49, u50, u51, u52, u53, u54, u55, u56, u57, u58, u59, u60, u61, u62, u63, u64, u65, u66, u67, u68, u69, u70, u71, u72, u73, u74, u75, u76, u77, u78, u79, u80, u81, u82, u83, u84, u85, u86, u87, u88, u89, u90, u91, u92, u93, u94, u95, u96, u97, u98, u99, u100, u101, u102, u103, u104, u105, u106, u107, u108, u109, u110, u111, u112, u113, u114, u115, u116, u117, u118, u119, u120, u121, u122, u123, u124, u125, u126, u127, u128, u129, u130, u131, u132, u133, u134, u135, u136, u137], defers := [] } V := by
  obtain ⟨c0, c1, c2, c3, c4, cl⟩ := C.rhs
  obtain ⟨a', g, T, x, hla', rfl, h3, h4, q0, h6⟩ := C.row.one hl
  obtain rfl : a' = a := by rw [hla] at hla'; simpa using hla'.symm
  have HE := Lib.hid (fun (V1 : World) (hV1 : Below V.heap.size V V1) => (show EvPost rb B p inp fuel m W (rhsF p.funs inp (evF p.funs inp n) 4 nn l ks bl e s) (.panicked (stopV 4)) V1 from by
    rw [show (rhsF p.funs inp (evF p.funs inp n) 4 nn l ks bl e s) = (.stuck, s) by
      simp only [rhsF, hla]
      cases a' with
      | blk t k => exact absurd rfl (hno t k)
      | _ => simp [fieldF]]
    exact .stuck (C.evo.trans (Evo.below hV1)) (C.good.below hV1) (thrown_one _ _)))
  have hlc := C.lc
  rw [hl] at hlc ⊢
  have hT : T = 88 ∨ T = 94 ∨ T = 112 := by
    cases h6 with
    | int n => exact .inl rfl
    | fn h => exact .inr (.inl rfl)
    | ref h => exact .inr (.inr rfl)
    | blk => exact absurd rfl (hno _ _)
  obtain ⟨out, hout⟩ : ∃ o, (rhsF p.funs inp (evF p.funs inp n) 4 nn l ks bl e s) = o := ⟨_, rfl⟩
  rw [hout] at HE ⊢
  clear hout
  obtain ⟨Q, hQ⟩ : ∃ Q, (bodyPost Tryd.prog Tryd.f28 (EvPost rb B p inp fuel m W out)) = Q := ⟨_, rfl⟩
  have HQ := Lib.hid hQ
  rw [hQ]
  clear hQ C hla hla' h3 h4 h6 hno
  unfold sdT Tryd.f28
  dsimp only
  rcases hT with rfl | rfl | rfl
  all_goals
    go_wp2_with fail
    rw [← HQ.out]
    go_quiet (fail)
    go_wp2_with (go_at_call 41; refine (stuck_any _).mono ?_; rintro en w' ⟨rfl, rfl⟩)
    (try rw [← HQ.out])
    exact ⟨rfl, HE.out _ (below_drewN (Below.refl _ _) _)⟩
set_option maxRecDepth 100000 in
set_option maxHeartbeats 8000000 in
theorem sd_field_blk (C : SCtx rb B p inp fuel m W s V X 4 nn Aa Ak Al A na ca nk ck nb cb cap l e (.pointer pk)) (hl : l.length = 1) {tag : Int} {kids : List PV} (hla : l = [.blk tag kids]) (hnn : 0 ≤ nn) (u1 u3 u5 u6 u7 u9 u10 u11 u12 u13 u14 u15 u16 u17 u18 u19 u20 u21 u22 u23 u24 u25 u26 u27 u28 u29 u30 u31 u32 u33 u34 u35 u36 u37 u38 u39 u40 u41 u42 u43 u44 u45 u46 u47 u48 u49 u50 u51 u52 u53 u54 u55 u56 u57 u58 u59 u60 u61 u62 u63 u64 u65 u66 u67 u68 u69 u70 u71 u72 u73 u74 u75 u76 u77 u78 u79 u80 u81 u82 u83 u84 u85 u86 u87 u88 u89 u90 u91 u92 u93 u94 u95 u96 u97 u98 u99 u100 u101 u102 u103 u104 u105 u106 u107 u108 u109 u110 u111 u112 u113 u114 u115 u116 u117 u118 u119 u120 u121 u122 u123 u124 u125 u126 u127 u128 u129 u130 u131 u132 u133 u134 u135 u136 u137 : Value) :
    sdT.wp Tryd.prog (bodyPost Tryd.prog Tryd.f28 (EvPost rb B p inp fuel m W (rhsF p.funs inp (evF p.funs inp n) 4 nn l ks bl e s))) { tmps := #[.pointer (some ⟨rb, 0, none⟩), u1, .pointer pk, u3, .pointer (some ⟨X, 0, none⟩), u5, u6, u7, .slice A l.length cap, u9, u10, u11, u12, u13, u14, u15, u16, u17, u18, u19, u20, u21, u22, u23, u24, u25, u26, u27, u28, u29, u30, u31, u32, u33, u34, u35, u36, u37, u38, u39, u40, u41, u42, u43, u44, u45, u46, u47, u48, u49, u50, u51, u52, u53, u54, u55, u56, u57, u58, u59, u60, u61, u62, u63, u64, u65, u66, u67, u68, u69, u70, u71, u72, u73, u74, u75, u76, u77, u78, u79, u80, u81, u82, u83, u84, u85, u86, u87, u88, u89, u90, u91, u92, u93, u94, u95, u96, u97, u98, u99, u100, u101, u102, u103, u104, u105, u106, u107, u108, u109, u110, u111, u112, u113, u114, u115, u116, u117, u118, u119, u120, u121, u122, u123, u124, u125, u126, u127, u128, u129, u130, u131, u132, u133, u134, u135, u136, u137], defers := [] } V := by
  obtain ⟨c0, c1, c2, c3, c4, cl⟩ := C.rhs
  obtain ⟨a', g, T, x, hla', rfl, h3, h4, q0, h6⟩ := C.row.one hl
  obtain rfl : a' = .blk tag kids := by rw [hla] at hla'; simpa using hla'.symm
  have hlc := C.lc
  rw [hl] at hlc ⊢
  cases h6 with
  | @blk _ _ b1 gg cap1 F hb hgl hgm hcl h0 h8 hc hk =>
  have q1 := at_cell0 hb (i := 1) rfl
  simp only [List.getElem_toArray, List.getElem_cons_zero, List.getElem_cons_succ] at q1
  by_cases hlt : nn < (kids.length : Int)
  · have hlt2 : nn.toNat < kids.length := by omega
    obtain ⟨T', x', hF⟩ := (hk _ hlt2).shape
    have q2 := hc _ hlt2
    rw [hF] at q2
    have HE := Lib.hid (fun (V1 : World) (hV1 : Below V.heap.size V V1) => (show EvPost rb B p inp fuel m W (rhsF p.funs inp (evF p.funs inp n) 4 nn l ks bl e s) (.returned (.iface T' x')) V1 from by
      rw [show (rhsF p.funs inp (evF p.funs inp n) 4 nn l ks bl e s) = (.val kids[nn.toNat], s) by simp [rhsF, hla, fieldF, hnn, hlt, hlt2]]
      exact .val (C.evo.trans (Evo.below hV1)) (C.good.below hV1) (by rw [← hF]; exact (hk _ hlt2).evo (Evo.below hV1))))
    obtain ⟨out, hout⟩ : ∃ o, (rhsF p.funs inp (evF p.funs inp n) 4 nn l ks bl e s) = o := ⟨_, rfl⟩
    rw [hout] at HE ⊢
    clear hout
    obtain ⟨Q, hQ⟩ : ∃ Q, (bodyPost Tryd.prog Tryd.f28 (EvPost rb B p inp fuel m W out)) = Q := ⟨_, rfl⟩
    have HQ := Lib.hid hQ
    rw [hQ]
    clear hQ C hla hla' h3 h4 hc hk hF hgm h8 hb
    unfold sdT Tryd.f28
    dsimp only
    generalize kids.length = ln at *
    go_wp2_with fail
    rw [← HQ.out]
    go_quiet (fail)
    go_wp2_with fail
    (try rw [← HQ.out])
    go_quiet (fail)
    go_wp2_with fail
    (try rw [← HQ.out])
    go_ret
    exact HE.out _ (by first | exact below_drewN (below_drewN (Below.refl _ _) _) _ | exact below_drewN (Below.refl _ _) _)
  · have HE := Lib.hid (fun (V1 : World) (hV1 : Below V.heap.size V V1) => (show EvPost rb B p inp fuel m W (rhsF p.funs inp (evF p.funs inp n) 4 nn l ks bl e s) (.panicked (stopV 4)) V1 from by
      rw [show (rhsF p.funs inp (evF p.funs inp n) 4 nn l ks bl e s) = (.stuck, s) by simp [rhsF, hla, fieldF, hlt]]
      exact .stuck (C.evo.trans (Evo.below hV1)) (C.good.below hV1) (thrown_one _ _)))
    have hge : (kids.length : Int) ≤ nn := by omega
    obtain ⟨out, hout⟩ : ∃ o, (rhsF p.funs inp (evF p.funs inp n) 4 nn l ks bl e s) = o := ⟨_, rfl⟩
    rw [hout] at HE ⊢
    clear hout
    obtain ⟨Q, hQ⟩ : ∃ Q, (bodyPost Tryd.prog Tryd.f28 (EvPost rb B p inp fuel m W out)) = Q := ⟨_, rfl⟩
    have HQ := Lib.hid hQ
    rw [hQ]
    clear hQ C hla hla' h3 h4 hc hk hgm h8 hb
    unfold sdT Tryd.f28
    dsimp only
    generalize kids.length = ln at *
    go_wp2_with fail
    rw [← HQ.out]
    go_quiet (fail)
    go_wp2_with (go_at_call 41; refine (stuck_any _).mono ?_; rintro en w' ⟨rfl, rfl⟩)
    (try rw [← HQ.out])
    exact ⟨rfl, HE.out _ (below_drewN (Below.refl _ _) _)⟩
end
end Go.Proofs.YtllakbiipdcboaaDoor

/-
  The evaluator of terms: a right side behind its atoms: calls, primitives, switches.
-/
set_option linter.unusedVariables false
set_option linter.unusedSimpArgs false
namespace Go.Proofs.YtllakbiipdcboaaDoor
open Go.RowKit

theorem whichAt_found {ks : List Int} {key : Int} {j : Nat} (hj : j < ks.length) (h : nth ks j = key) (hn : ∀ i, i < j → nth ks i ≠ key) : whichAt ks key = j + 1 := by
  have : ks.findIdx? (· == key) = some j := by
    rw [List.findIdx?_eq_some_iff_getElem]
    refine ⟨hj, by rw [nth_eq ks hj] at h; simp [h], fun i hi => ?_⟩
    have := hn i hi
    rw [nth_eq ks (by omega)] at this
    simpa using this
  simp [whichAt, this]
theorem whichAt_none {ks : List Int} {key : Int} (hn : ∀ i, i < ks.length → nth ks i ≠ key) : whichAt ks key = 0 := by
  have : ks.findIdx? (· == key) = none := by
    rw [List.findIdx?_eq_none_iff]
    intro x hx
    obtain ⟨i, hi, rfl⟩ := List.getElem_of_mem hx
    have := hn i hi
    rw [nth_eq ks hi] at this
    simpa using this
  simp [whichAt, this]
section
variable {rb B : Nat} {p : FlatP} {inp : List Int} {fuel n : Nat} {s : FSt} {m : Mem} {W V : World} {X : Nat} {nn : Int} {Aa Ak Al A : Option Addr} {na ca nk ck nb cb cap : Nat} {l : List PV} {ks : List Int} {bl : List Anf} {e : PEnv} {pk : Option Addr}
set_option maxRecDepth 100000 in
set_option maxHeartbeats 8000000 in
theorem sd_app (C : SCtx rb B p inp fuel m W s V X 6 nn Aa Ak Al A na ca nk ck nb cb cap l e (.pointer pk)) (hok : BodyOk rb B p inp fuel n) (hn : s.left ≤ n) (hl : l.length = 2) (u1 u3 u5 u6 u7 u9 u10 u11 u12 u13 u14 u15 u16 u17 u18 u19 u20 u21 u22 u23 u24 u25 u26 u27 u28 u29 u30 u31 u32 u33 u34 u35 u36 u37 u38 u39 u40 u41 u42 u43 u44 u45 u46 u47 u48 u49 u50 u51 u52 u53 u54 u55 u56 u57 u58 u59 u60 u61 u62 u63 u64 u65 u66 u67 u68 u69 u70 u71 u72 u73 u74 u75 u76 u77 u78 u79 u80 u81 u82 u83 u84 u85 u86 u87 u88 u89 u90 u91 u92 u93 u94 u95 u96 u97 u98 u99 u100 u101 u102 u103 u104 u105 u106 u107 u108 u109 u110 u111 u112 u113 u114 u115 u116 u117 u118 u119 u120 u121 u122 u123 u124 u125 u126 u127 u128 u129 u130 u131 u132 u133 u134 u135 u136 u137 : Value) :
    sdT.wp Tryd.prog (bodyPost Tryd.prog Tryd.f28 (EvPost rb B p inp fuel m W (rhsF p.funs inp (evF p.funs inp n) 6 nn l ks bl e s))) { tmps := #[.pointer (some ⟨rb, 0, none⟩), u1, .pointer pk, u3, .pointer (some ⟨X, 0, none⟩), u5, u6, u7, .slice A l.length cap, u9, u10, u11, u12, u13, u14, u15, u16, u17, u18, u19, u20, u21, u22, u23, u24, u25, u26, u27, u28, u29, u30, u31, u32, u33, u34, u35, u36, u37, u38, u39, u40, u41, u42, u43, u44, u45, u46, u47, u48, u49, u50, u51, u52, u53, u54, u55, u56, u57, u58, u59, u60, u61, u62, u63, u64, u65, u66, u67, u68, u69, u70, u71, u72, u73, u74, u75, u76, u77, u78, u79, u80, u81, u82, u83, u84, u85, u86, u87, u88, u89, u90, u91, u92, u93, u94, u95, u96, u97, u98, u99, u100, u101, u102, u103, u104, u105, u106, u107, u108, u109, u110, u111, u112, u113, u114, u115, u116, u117, u118, u119, u120, u121, u122, u123, u124, u125, u126, u127, u128, u129, u130, u131, u132, u133, u134, u135, u136, u137], defers := [] } V := by
  obtain ⟨c0, c1, c2, c3, c4, cl⟩ := C.rhs
  obtain ⟨a, b, g, T, x, U, y, hla, rfl, q3, q4, q5, q6, q7, q8⟩ := C.row.two hl
  have HS := Lib.hid (fun (m' : Mem) (V' : World) (hE : Evo rb m m' V V') => (show V'.cell? ⟨g, 0, none⟩ = some (.iface T x) ∧ V'.cell? ⟨g, 1, none⟩ = some (.iface U y) from
    ⟨(cell_of_heap (hE.same g q3 q4) _).trans q5, (cell_of_heap (hE.same g q3 q4) _).trans q6⟩))
  have HE := Lib.hid (show Calls Tryd.prog 42 #[.pointer (some ⟨rb, 0, none⟩), .iface T x, .iface U y] V.drew fun en V' => (∃ m', Evo rb m m' V V') ∧ EvPost rb B p inp fuel m W (rhsF p.funs inp (evF p.funs inp n) 6 nn l ks bl e s) en V' from by
    have hd : Evo rb m m V V.drew := (Evo.refl _ _ _).drew
    have hgd := C.good.below (Below.refl _ _).drew
    rw [show (rhsF p.funs inp (evF p.funs inp n) 6 nn l ks bl e s) = callF p.funs (evF p.funs inp n) a b s by simp [rhsF, hla]]
    refine (call_any hok a b (q7.evo hd) (q8.evo hd) hgd hn).mono fun en V' h => ?_
    obtain ⟨m', hm'⟩ := h.evo
    exact ⟨⟨m', hd.trans hm'⟩, h.from_ (C.evo.trans hd)⟩)
  have hlc := C.lc
  rw [hl] at hlc ⊢
  obtain ⟨out, hout⟩ : ∃ o, (rhsF p.funs inp (evF p.funs inp n) 6 nn l ks bl e s) = o := ⟨_, rfl⟩
  rw [hout] at HE ⊢
  clear hout
  obtain ⟨Q, hQ⟩ : ∃ Q, (bodyPost Tryd.prog Tryd.f28 (EvPost rb B p inp fuel m W out)) = Q := ⟨_, rfl⟩
  have HQ := Lib.hid hQ
  rw [hQ]
  clear hQ C hla q3 q4 q7 q8 hok hn hl
  unfold sdT Tryd.f28
  dsimp only
  go_wp2_with fail
  rw [← HQ.out]
  go_region_held2 (fun V => V.cell? ⟨g, 0, none⟩ = some (.iface T x) ∧ V.cell? ⟨g, 1, none⟩ = some (.iface U y)) (first | exact ⟨q5, q6⟩ | exact HS.out _ _ hEV)
    ((go_at_call 42; refine Calls.mono HE.out ?_; rintro en V' ⟨⟨mE, hEV⟩, h⟩; rcases h.ends with ⟨g', rfl, hP⟩ | ⟨ch, rfl, hP⟩; rotate_left; exact ⟨rfl, hP⟩))
  all_goals
    simp only [Exit.then]
    refine (‹∀ (a : Act) (w : World), Code.wp Tryd.prog _ _ a w → _›) _ _ ?_
    go_wp2_with fail
    (try rw [← HQ.out])
    go_ret
    exact hP
set_option maxRecDepth 100000 in
set_option maxHeartbeats 8000000 in
theorem sd_prim (C : SCtx rb B p inp fuel m W s V X 2 nn Aa Ak Al A na ca nk ck nb cb cap l e (.pointer pk)) (hok : BodyOk rb B p inp fuel n) (hn : s.left ≤ n) (hs : s.out.length + s.left < fuel) (h1 : l.length = if twoF nn then 2 else 1) (h2 : 1 ≤ nn ∧ nn ≤ 16) (u1 u3 u5 u6 u7 u9 u10 u11 u12 u13 u14 u15 u16 u17 u18 u19 u20 u21 u22 u23 u24 u25 u26 u27 u28 u29 u30 u31 u32 u33 u34 u35 u36 u37 u38 u39 u40 u41 u42 u43 u44 u45 u46 u47 u48 u49 u50 u51 u52 u53 u54 u55 u56 u57 u58 u59 u60 u61 u62 u63 u64 u65 u66 u67 u68 u69 u70 u71 u72 u73 u74 u75 u76 u77 u78 u79 u80 u81 u82 u83 u84 u85 u86 u87 u88 u89 u90 u91 u92 u93 u94 u95 u96 u97 u98 u99 u100 u101 u102 u103 u104 u105 u106 u107 u108 u109 u110 u111 u112 u113 u114 u115 u116 u117 u118 u119 u120 u121 u122 u123 u124 u125 u126 u127 u128 u129 u130 u131 u132 u133 u134 u135 u136 u137 : Value) :
    sdT.wp Tryd.prog (bodyPost Tryd.prog Tryd.f28 (EvPost rb B p inp fuel m W (rhsF p.funs inp (evF p.funs inp n) 2 nn l ks bl e s))) { tmps := #[.pointer (some ⟨rb, 0, none⟩), u1, .pointer pk, u3, .pointer (some ⟨X, 0, none⟩), u5, u6, u7, .slice A l.length cap, u9, u10, u11, u12, u13, u14, u15, u16, u17, u18, u19, u20, u21, u22, u23, u24, u25, u26, u27, u28, u29, u30, u31, u32, u33, u34, u35, u36, u37, u38, u39, u40, u41, u42, u43, u44, u45, u46, u47, u48, u49, u50, u51, u52, u53, u54, u55, u56, u57, u58, u59, u60, u61, u62, u63, u64, u65, u66, u67, u68, u69, u70, u71, u72, u73, u74, u75, u76, u77, u78, u79, u80, u81, u82, u83, u84, u85, u86, u87, u88, u89, u90, u91, u92, u93, u94, u95, u96, u97, u98, u99, u100, u101, u102, u103, u104, u105, u106, u107, u108, u109, u110, u111, u112, u113, u114, u115, u116, u117, u118, u119, u120, u121, u122, u123, u124, u125, u126, u127, u128, u129, u130, u131, u132, u133, u134, u135, u136, u137], defers := [] } V := by
  obtain ⟨c0, c1, c2, c3, c4, cl⟩ := C.rhs
  have HE := Lib.hid (show Calls Tryd.prog 43 #[.pointer (some ⟨rb, 0, none⟩), .int .i64 nn, .slice A l.length cap] V (EvPost rb B p inp fuel m W (rhsF p.funs inp (evF p.funs inp n) 2 nn l ks bl e s)) from by
    have hp : 0 < l.length := by rw [h1]; split <;> omega
    obtain ⟨g, F, rfl, q2, q3, q4, q5⟩ := C.row hp
    rw [show (rhsF p.funs inp (evF p.funs inp n) 2 nn l ks bl e s) = primF p.funs inp (evF p.funs inp n) nn l s by simp [rhsF]]
    exact (prim_any hok C.good hn hs h2.1 h2.2 (l := l) (g := g) (cap := cap) (F := F) h1 ⟨q2, q3, q4, q5⟩).mono fun en V' h => h.from_ C.evo)
  obtain ⟨out, hout⟩ : ∃ o, (rhsF p.funs inp (evF p.funs inp n) 2 nn l ks bl e s) = o := ⟨_, rfl⟩
  rw [hout] at HE ⊢
  clear hout
  obtain ⟨Q, hQ⟩ : ∃ Q, (bodyPost Tryd.prog Tryd.f28 (EvPost rb B p inp fuel m W out)) = Q := ⟨_, rfl⟩
  have HQ := Lib.hid hQ
  rw [hQ]
  clear hQ C hok hn hs h1 h2
  unfold sdT Tryd.f28
  dsimp only
  generalize l.length = ln at *
  go_wp2_with fail
  refine Calls.mono HE.out ?_
  intro en V' h
  (try rw [← HQ.out])
  rcases h.ends with ⟨g', rfl, hP⟩ | ⟨ch, rfl, hP⟩
  · go_wp2_with fail
    (try rw [← HQ.out])
    go_ret
    exact hP
  · (try rw [← HQ.out])
    exact ⟨rfl, hP⟩
set_option maxRecDepth 100000 in
set_option maxHeartbeats 8000000 in
theorem sd_switch (C : SCtx rb B p inp fuel m W s V X 8 nn Aa Ak Al A na ca nk ck nb cb cap l e (.pointer pk)) (hok : BodyOk rb B p inp fuel n) (hn : s.left < n) (hl : l.length = 1) (hks : IntsIn V.heap.size V Ak ks) (hnk : nk = ks.length) (hkc : nk ≤ ck) (hbl : BlocksIn B V Al bl) (hnb : nb = bl.length) (hcb : nb ≤ cb) (h2 : bl.length = ks.length + 1) (hwb : ∀ c ∈ bl, WfA p.funs.length c) (u1 u3 u5 u6 u7 u9 u10 u11 u12 u13 u14 u15 u16 u17 u18 u19 u20 u21 u22 u23 u24 u25 u26 u27 u28 u29 u30 u31 u32 u33 u34 u35 u36 u37 u38 u39 u40 u41 u42 u43 u44 u45 u46 u47 u48 u49 u50 u51 u52 u53 u54 u55 u56 u57 u58 u59 u60 u61 u62 u63 u64 u65 u66 u67 u68 u69 u70 u71 u72 u73 u74 u75 u76 u77 u78 u79 u80 u81 u82 u83 u84 u85 u86 u87 u88 u89 u90 u91 u92 u93 u94 u95 u96 u97 u98 u99 u100 u101 u102 u103 u104 u105 u106 u107 u108 u109 u110 u111 u112 u113 u114 u115 u116 u117 u118 u119 u120 u121 u122 u123 u124 u125 u126 u127 u128 u129 u130 u131 u132 u133 u134 u135 u136 u137 : Value) :
    sdT.wp Tryd.prog (bodyPost Tryd.prog Tryd.f28 (EvPost rb B p inp fuel m W (rhsF p.funs inp (evF p.funs inp n) 8 nn l ks bl e s))) { tmps := #[.pointer (some ⟨rb, 0, none⟩), u1, .pointer pk, u3, .pointer (some ⟨X, 0, none⟩), u5, u6, u7, .slice A l.length cap, u9, u10, u11, u12, u13, u14, u15, u16, u17, u18, u19, u20, u21, u22, u23, u24, u25, u26, u27, u28, u29, u30, u31, u32, u33, u34, u35, u36, u37, u38, u39, u40, u41, u42, u43, u44, u45, u46, u47, u48, u49, u50, u51, u52, u53, u54, u55, u56, u57, u58, u59, u60, u61, u62, u63, u64, u65, u66, u67, u68, u69, u70, u71, u72, u73, u74, u75, u76, u77, u78, u79, u80, u81, u82, u83, u84, u85, u86, u87, u88, u89, u90, u91, u92, u93, u94, u95, u96, u97, u98, u99, u100, u101, u102, u103, u104, u105, u106, u107, u108, u109, u110, u111, u112, u113, u114, u115, u116, u117, u118, u119, u120, u121, u122, u123, u124, u125, u126, u127, u128, u129, u130, u131, u132, u133, u134, u135, u136, u137], defers := [] } V := by
  obtain ⟨c0, c1, c2, c3, c4, cl⟩ := C.rhs
  obtain ⟨a, g, T, x, hla, rfl, h3, h4, q0, h6⟩ := C.row.one hl
  have HKEY := Lib.hid (key_any h6)
  have HNO := Lib.hid (fun (hk0 : keyOf a = none) => (show EvPost rb B p inp fuel m W (rhsF p.funs inp (evF p.funs inp n) 8 nn l ks bl e s) (.panicked (stopV 4)) V from by
    rw [show (rhsF p.funs inp (evF p.funs inp n) 8 nn l ks bl e s) = (.stuck, s) by simp [rhsF, hla, hk0]]
    exact .stuck C.evo C.good (thrown_one _ _)))
  have HSO := Lib.hid (fun (key : Int) (hk0 : keyOf a = some key) (j : Nat) (hj : j < bl.length) (hwa : whichAt ks key = j) => (show ∃ bb oo A0 n0 d0 v0 v1, Al = some ⟨bb, oo, none⟩ ∧ V.cell? ⟨bb, oo + j * 3, none⟩ = some (.slice A0 n0 d0) ∧ V.cell? ⟨bb, oo + j * 3 + 1, none⟩ = some (.bool v0) ∧ V.cell? ⟨bb, oo + j * 3 + 2, none⟩ = some (.int .i64 v1) ∧
        ∀ V1, Below V.heap.size V V1 → Calls Tryd.prog 20 #[.pointer (some ⟨rb, 0, none⟩), .agg #[.slice A0 n0 d0, .bool v0, .int .i64 v1], .pointer pk] V1 (EvPost rb B p inp fuel m W (rhsF p.funs inp (evF p.funs inp n) 8 nn l ks bl e s)) from by
    obtain ⟨bb, oo, g0, g1, g2, e1, e2, e3, e4, e5, hbd⟩ := hbl.2 j hj
    obtain ⟨A0, d0, b0, o0, hvv, -⟩ := hbd.at_
    simp only [Array.mk.injEq, List.cons.injEq, and_true] at hvv
    obtain ⟨rfl, rfl, rfl⟩ := hvv
    refine ⟨bb, oo, A0, _, d0, _, _, e1, e3, e4, e5, fun V1 hV1 => ?_⟩
    have hE := Evo.below (rb := rb) (m := m) hV1
    rw [show (rhsF p.funs inp (evF p.funs inp n) 8 nn l ks bl e s) = evF p.funs inp n bl[j] e s by simp [rhsF, hla, hk0, hwa, hj]]
    exact (hok _ _ _ m V1 _ _ (hbd.kept (hV1.mono C.good.Bs)) (hwb _ (List.getElem_mem hj)) (C.env.evo hE) (C.good.below hV1) hn).mono fun en V' h => h.from_ (C.evo.trans hE)))
  have HKK := Lib.hid (fun (j : Nat) (hj : j < ks.length) => (show ∃ bk ok, Ak = some ⟨bk, ok, none⟩ ∧ V.cell? ⟨bk, ok + j, none⟩ = some (.int .i64 (nth ks j)) from by
    obtain ⟨bk, ok, h1, h2, h3⟩ := hks.at_ (by omega)
    exact ⟨bk, ok, h1, h3 j hj⟩))
  have hlc := C.lc
  rw [hl] at hlc ⊢
  obtain ⟨KL, hKL⟩ : ∃ L, ks.length = L := ⟨_, rfl⟩
  have HKL := Lib.hid hKL
  have H2 := Lib.hid h2
  have hk64 := hks.1
  have hb64 := hbl.1
  rw [hnb, h2, hKL] at c4 hcb
  rw [hnk, hKL] at c3 hkc
  rw [hKL] at hk64
  rw [h2, hKL] at hb64
  have HE := Lib.hid (show True from trivial)
  obtain ⟨out, hout⟩ : ∃ o, (rhsF p.funs inp (evF p.funs inp n) 8 nn l ks bl e s) = o := ⟨_, rfl⟩
  rw [hout] at HNO HSO ⊢
  clear hout
  obtain ⟨Q, hQ⟩ : ∃ Q, (bodyPost Tryd.prog Tryd.f28 (EvPost rb B p inp fuel m W out)) = Q := ⟨_, rfl⟩
  have HQ := Lib.hid hQ
  rw [hQ]
  clear hQ C hla h3 h4 h6 hok hn hl hks hbl hwb h2 hnk hnb hKL
  unfold sdT Tryd.f28
  dsimp only
  go_wp2_with (go_at_call 25; refine Calls.mono HKEY.out ?_; rintro en V' (⟨key, hkk, rfl, rfl⟩ | ⟨hkk, rfl, rfl⟩); rotate_left; ((try rw [← HQ.out]); exact ⟨rfl, HNO.out hkk⟩))
  have HSK := Lib.hid (HSO.out key hkk)
  clear HSO HNO HKEY hkk
  go_loopw [108] (fun iv wr => ∃ j : Nat, j ≤ KL ∧ iv = .int .i64 (j : Int) ∧ wr = V ∧ Hid (∀ i, i < j → nth ks i ≠ key)) (fun iv _ => KL + 1 - (intOf iv).toNat)
  case atStart => exact ⟨0, by omega, rfl, rfl, Lib.hid (fun i hi => by omega)⟩
  case round =>
    obtain ⟨j, hj, rfl, rfl, HNE⟩ := hrel
    by_cases hlt : j < KL
    · obtain ⟨bk, ok, rfl, kc⟩ := HKK.out j (by rw [HKL.out]; exact hlt)
      have hj0 : (0 : Int) ≤ (j : Int) := by omega
      have hjk : (j : Int) < (KL : Int) := by omega
      have w1 : IntKind.i64.wrap ((j : Int) + 1) = (j : Int) + 1 := by rw [IntKind.wrap_i64]; omega
      have w1' : IntKind.i64.wrap (1 + (j : Int)) = 1 + (j : Int) := by rw [IntKind.wrap_i64]; omega
      by_cases heq : nth ks j = key
      · have hb : (nth ks j == key) = true := by simpa using heq
        obtain ⟨bb, oo, A0, n0, dd0, v0, v1, rfl, y0, y1, y2, hC⟩ := HSK.out (j + 1) (by rw [H2.out, HKL.out]; omega) (whichAt_found (by rw [HKL.out]; exact hlt) heq HNE.out)
        have HC := Lib.hid hC
        have w2 : (0 : Int) ≤ 1 + (j : Int) := by omega
        have w3 : 1 + (j : Int) < (KL : Int) + 1 := by omega
        have w4 : (1 + (j : Int)).toNat = j + 1 := by omega
        have w5 : (KL : Int) + 1 ≤ (cb : Int) := by omega
        clear hC heq
        go_wp2_with fail
        refine Calls.mono (HC.out _ (by first | exact Below.refl _ _ | exact (Below.refl _ _).drew | exact below_drewN (Below.refl _ _) _)) ?_
        intro en V' h
        (try rw [← HQ.out])
        rcases h.ends with ⟨g', rfl, hP⟩ | ⟨ch, rfl, hP⟩
        · go_wp2_with fail
          (try rw [← HQ.out])
          go_ret
          exact hP
        · first | exact ⟨rfl, hP⟩ | (show Q _ _ _; rw [← HQ.out]; exact ⟨rfl, hP⟩)
      · have hb : (nth ks j == key) = false := by simpa using heq
        have HN2 := Lib.hid (show ∀ i, i < j + 1 → nth ks i ≠ key from fun i hi => by
          by_cases hij : i = j
          · subst hij; exact heq
          · exact HNE.out i (by omega))
        clear heq
        go_wp2_with fail
        go_roundw
        case rel => exact ⟨j + 1, by omega, by go_num, (by first | rfl | trivial), HN2⟩
        case measure => simp [intOf]; omega
    · have hjk : j = KL := by omega
      subst hjk
      obtain ⟨bb, oo, A0, n0, dd0, v0, v1, rfl, y0, y1, y2, hC⟩ := HSK.out 0 (by rw [H2.out]; omega) (whichAt_none (by rw [HKL.out]; exact HNE.out))
      have HC := Lib.hid hC
      have w2 : (0 : Int) < (j : Int) + 1 := by omega
      have w5 : (j : Int) + 1 ≤ (cb : Int) := by omega
      simp only [Nat.zero_mul, Nat.add_zero] at y0 y1 y2
      clear hC
      go_wp2_with fail
      refine Calls.mono (HC.out _ (by first | exact Below.refl _ _ | exact (Below.refl _ _).drew | exact below_drewN (Below.refl _ _) _)) ?_
      intro en V' h
      (try rw [← HQ.out])
      rcases h.ends with ⟨g', rfl, hP⟩ | ⟨ch, rfl, hP⟩
      · go_wp2_with fail
        (try rw [← HQ.out])
        go_ret
        exact hP
      · (try rw [← HQ.out])
        exact ⟨rfl, hP⟩
end
end Go.Proofs.YtllakbiipdcboaaDoor
