/-
 1 texts of this seat in one: S4.
-/
import Derived.Test.YtnobggabjpcbfaaGreatQI38
set_option maxRecDepth 100000
set_option maxHeartbeats 16000000
set_option linter.unusedVariables false
set_option linter.unusedSimpArgs false
namespace Go.Proofs.YtnobggabjpcbfaaGreat
open Go.RowKit Go.Maps
open Go.Proofs.YtnobggabjpcbfaaGreatW.PrintWords Go.Proofs.YtnobggabjpcbfaaGreatW.PrintLast
theorem ints_rowI {B : Nat} {w : World} {A : Option Addr} {ks : List Int} (h : IntsIn B w A ks) : RowI w A (iv ks) := ints_row h
theorem ints_grown {w w' : World} {A : Option Addr} {ks : List Int} {row : Option Nat} (h : IntsIn w.heap.size w A ks) (hg : w.grownBy w' row) (hne : ∀ a, A = some a → ks ≠ [] → row ≠ some a.block) : IntsIn w'.heap.size w' A ks := by
 refine ⟨h.1, ?_⟩
 by_cases h0 : ks = []
 · exact .inl h0
 · rcases h.2 with h1 | ⟨b, o, rfl, hlt, hc⟩
   · exact absurd h1 h0
   · refine .inr ⟨b, o, rfl, Nat.lt_of_lt_of_le hlt hg.size, fun j hj => (cell_of_heap (hg.block b hlt (fun e => hne _ rfl h0 e.symm)) _).trans (hc j hj)⟩
structure RS (V : World) (l g : List Int) (b : Nat → Bool) (vE v1 : Value) (Ag A3 : Option Addr) (c3 : Nat) (w : World) : Prop where
 bel : Below V.heap.size V w
 o5 : b 5 = true → b 2 = true ∧ b 4 = true
 e0 : b 0 = true → b 2 = false → w.ownsRow V.heap.size 3 1 vE 0 []
 e1 : b 2 = true → b 5 = false → w.ownsRow V.heap.size 3 1 v1 l.length (iv l)
 g4 : b 4 = true → b 5 = false → IntsIn w.heap.size w Ag g
 d0 : b 0 = true → b 2 = false → b 4 = true → ∀ a, Ag = some a → g ≠ [] → vE.ownBlock ≠ some a.block
 e2 : b 5 = true → IntsIn w.heap.size w A3 (l ++ g) ∧ (l ++ g).length ≤ c3
theorem RS.start {V w : World} {l g : List Int} (hb : Below V.heap.size V w) : RS V l g (fun _ => false) (.bool false) (.bool false) none none 0 w :=
 ⟨hb, fun h => Bool.noConfusion h, fun h => Bool.noConfusion h, fun h => Bool.noConfusion h, fun h => Bool.noConfusion h, fun h => Bool.noConfusion h, fun h => Bool.noConfusion h⟩
section
variable {V w w' : World} {l g : List Int} {b : Nat → Bool} {vE v1 : Value} {Ag A3 : Option Addr} {c3 : Nat}
theorem RS.pass (h : RS V l g b vE v1 Ag A3 c3 w) {i : Nat} (hi : i = 1 ∨ i = 3 ∨ i = 6) : RS V l g (up b i) vE v1 Ag A3 c3 w := by
 have e : ∀ j, j = 0 ∨ j = 2 ∨ j = 4 ∨ j = 5 → up b i j = b j := fun j hj => up_ne (by omega)
 have g0 := e 0 (by omega)
 have g2 := e 2 (by omega)
 have g4 := e 4 (by omega)
 have g5 := e 5 (by omega)
 constructor
 · exact h.bel
 · rw [g5, g2, g4]; exact h.o5
 · rw [g0, g2]; exact h.e0
 · rw [g2, g5]; exact h.e1
 · rw [g4, g5]; exact h.g4
 · rw [g0, g2, g4]; exact h.d0
 · rw [g5]; exact h.e2
theorem RS.row (h : RS V l g b vE v1 Ag A3 c3 w) (h2 : b 2 = false) (h5 : b 5 = false) : RS V l g (up b 0) (.slice (some ⟨w.heap.size, 0, none⟩) 0 0) v1 Ag A3 c3 (w.alloc (.cells #[] 3)) := by
 have hb : Below w.heap.size w (w.alloc (.cells #[] 3)) := (Below.refl _ _).alloc (Nat.le_refl _) _
 have g : ∀ j, j ≠ 0 → up b 0 j = b j := fun j hj => up_ne hj
 constructor
 · exact h.bel.trans (hb.mono h.bel.size)
 · rw [g 5 (by decide), h5]; exact fun k => Bool.noConfusion k
 · exact fun _ _ => own_empty w h.bel.size _ _
 · rw [g 2 (by decide), h2]; exact fun k => Bool.noConfusion k
 · rw [g 4 (by decide), g 5 (by decide)]; exact fun k1 k2 => ((h.g4 k1 k2).below hb).mono hb.size
 · rw [g 4 (by decide)]
   intro _ _ k4 a ha hg
   rcases (h.g4 k4 h5).2 with h0 | ⟨bb, o, h0, hlt, _⟩
   · exact absurd h0 hg
   · rw [h0] at ha
     cases ha
     simp only [Value.ownBlock, ne_eq, Option.some.injEq]
     omega
 · rw [g 5 (by decide), h5]; exact fun k => Bool.noConfusion k
theorem RS.app1 (h : RS V l g b vE v1 Ag A3 c3 w) (h0 : b 0 = true) (h2 : b 2 = false) {v' : Value} (hown : w'.ownsRow V.heap.size 3 1 v' l.length (iv l)) (hg : w.grownBy w' vE.ownBlock) : RS V l g (up b 2) vE v' Ag A3 c3 w' := by
 have g : ∀ j, j ≠ 2 → up b 2 j = b j := fun j hj => up_ne hj
 have h5 : b 5 = false := by
  cases hc : b 5 with
  | false => rfl
  | true => rw [(h.o5 hc).1] at h2; cases h2
 constructor
 · exact grown_below h.bel hg (own_ge (h.e0 h0 h2))
 · rw [g 5 (by decide), h5]; exact fun k => Bool.noConfusion k
 · rw [up_self]; exact fun _ k => Bool.noConfusion k
 · exact fun _ _ => hown
 · rw [g 4 (by decide), g 5 (by decide)]; exact fun k1 k2 => ints_grown (h.g4 k1 k2) hg (h.d0 h0 h2 k1)
 · rw [up_self]; exact fun _ k => Bool.noConfusion k
 · rw [g 5 (by decide), h5]; exact fun k => Bool.noConfusion k
theorem RS.vars (h : RS V l g b vE v1 Ag A3 c3 w) (h5 : b 5 = false) (hb : Below w.heap.size w w') {Ag' : Option Addr} (hgi : IntsIn w'.heap.size w' Ag' g) (hlo : ∀ a, Ag' = some a → w.heap.size ≤ a.block) : RS V l g (up b 4) vE v1 Ag' A3 c3 w' := by
 have e : ∀ j, j ≠ 4 → up b 4 j = b j := fun j hj => up_ne hj
 have hsame : ∀ {v : Value} {n : Nat} {xs : List Value}, w.ownsRow V.heap.size 3 1 v n xs → w'.ownsRow V.heap.size 3 1 v n xs := fun ho => ownsRow_same ho (fun q hq => hb.block q (own_lt_ ho q hq))
 constructor
 · exact h.bel.trans (hb.mono h.bel.size)
 · rw [e 5 (by decide), h5]; exact fun k => Bool.noConfusion k
 · rw [e 0 (by decide), e 2 (by decide)]; exact fun k1 k2 => hsame (h.e0 k1 k2)
 · rw [e 2 (by decide), e 5 (by decide)]; exact fun k1 k2 => hsame (h.e1 k1 k2)
 · exact fun _ _ => hgi
 · rw [e 0 (by decide), e 2 (by decide)]
   intro k0 k2 _ a ha _ hq
   have h1 := hlo a ha
   have h2 := own_lt_ (h.e0 k0 k2) _ hq
   omega
 · rw [e 5 (by decide), h5]; exact fun k => Bool.noConfusion k
theorem RS.app2 (h : RS V l g b vE v1 Ag A3 c3 w) (h2 : b 2 = true) (h4 : b 4 = true) (h5 : b 5 = false) {A4 : Option Addr} {c4 : Nat} (hin : IntsIn w'.heap.size w' A4 (l ++ g)) (hc : (l ++ g).length ≤ c4) (hg : w.grownBy w' v1.ownBlock) : RS V l g (up b 5) vE v1 Ag A4 c4 w' := by
 have e : ∀ j, j ≠ 5 → up b 5 j = b j := fun j hj => up_ne hj
 constructor
 · exact grown_below h.bel hg (own_ge (h.e1 h2 h5))
 · rw [e 2 (by decide), e 4 (by decide)]; exact fun _ => ⟨h2, h4⟩
 · rw [e 2 (by decide), h2]; exact fun _ k => Bool.noConfusion k
 · rw [up_self]; exact fun _ k => Bool.noConfusion k
 · rw [up_self]; exact fun _ k => Bool.noConfusion k
 · rw [e 2 (by decide), h2]; exact fun _ k => Bool.noConfusion k
 · exact fun _ => ⟨hin, hc⟩
end
theorem bd_region32 {w V : World} {X3 X7 na nb ca ck cb c2 LL : Nat} {k n out : Int} {Aa Ak Al A2 : Option Addr} {ks l g : List Int} (hLL : l.length = LL) (hl : IntsIn V.heap.size V A2 l) (hlc : l.length ≤ c2) (hsum : (l ++ g).length * 8 ≤ 140737488351232) (hgv : groupV ks = g)
 (hS : ∀ V2, Below V.heap.size V V2 → V2.cell? ⟨X7, 0, none⟩ = some (.int .i64 k) ∧ V2.cell? ⟨X7, 1, none⟩ = some (.int .i64 n) ∧ V2.cell? ⟨X7, 2, none⟩ = some (.slice Aa na ca) ∧ V2.cell? ⟨X7, 3, none⟩ = some (.slice Ak ks.length ck) ∧ V2.cell? ⟨X7, 4, none⟩ = some (.slice Al nb cb)) (hk : IntsIn V.heap.size V Ak ks) (hkc : ks.length ≤ ck)
 (hend : ∀ (V2 : World) (A3 : Option Addr) (c3 : Nat), Below V.heap.size V V2 → IntsIn V2.heap.size V2 A3 (l ++ g) → (l ++ g).length ≤ c3 → ∀ (y0 y1 y4 y5 y6 y8 y9 y10 y11 y12 y13 y14 y15 y16 y17 y18 y19 y20 y21 y22 y23 y24 y25 y26 y27 y28 y29 y30 y31 y32 y33 y34 y35 y36 y37 y38 y39 y40 y41 y42 y43 y44 y45 y46 y47 y48 y49 y50 y51 y52 y53 y54 y55 y56 y57 y58 y59 y60 y61 y62 y63 y64 y65 y66 y67 y68 y69 y70 y71 y72 y73 y74 y75 y76 y77 y78 y79 y80 y81 y82 y83 y84 y85 y86 y87 y88 y89 y90 y91 y92 y93 y94 y95 y96 y97 y98 y99 y100 y101 y102 y103 y104 y105 y106 y107 y108 y109 y110 y111 y112 y113 y114 y115 y116 y117 y118 y119 y120 y121 y122 y123 y124 y125 y126 y127 y128 y129 y130 y131 y132 y133 y134 y135 y136 y137 y138 y139 y140 y141 y142 y143 y144 y145 y146 y147 y148 y149 y150 y151 y152 y153 y154 y155 y156 y157 y158 y159 y160 y161 y162 y163 y164 y165 y166 y167 y168 y169 y170 y171 y172 y173 y174 y175 y176 y177 y178 y179 y180 y181 y182 y183 y184 y185 y186 y187 y188 y189 y190 y191 y192 y193 y194 y195 y196 y197 y198 y199 y200 y201 y202 y203 y204 y205 y206 y207 y208 y209 y210 y211 y212 y213 y214 y215 y216 y217 y218 y219 y220 y221 y222 y223 y224 y225 y226 y227 y228 y229 y230 y231 y232 y233 y234 y235 y236 : Value), bdT33.wp Tryz.prog (bodyPost Tryz.prog Tryz.f44 (IntBelow out w)) { tmps := #[y0, y1, .slice A3 (l ++ g).length c3, .pointer (some ⟨X3, 0, none⟩), y4, y5, y6, .pointer (some ⟨X7, 0, none⟩), y8, y9, y10, y11, y12, y13, y14, y15, y16, y17, y18, y19, y20, y21, y22, y23, y24, y25, y26, y27, y28, y29, y30, y31, y32, y33, y34, y35, y36, y37, y38, y39, y40, y41, y42, y43, y44, y45, y46, y47, y48, y49, y50, y51, y52, y53, y54, y55, y56, y57, y58, y59, y60, y61, y62, y63, y64, y65, y66, y67, y68, y69, y70, y71, y72, y73, y74, y75, y76, y77, y78, y79, y80, y81, y82, y83, y84, y85, y86, y87, y88, y89, y90, y91, y92, y93, y94, y95, y96, y97, y98, y99, y100, y101, y102, y103, y104, y105, y106, y107, y108, y109, y110, y111, y112, y113, y114, y115, y116, y117, y118, y119, y120, y121, y122, y123, y124, y125, y126, y127, y128, y129, y130, y131, y132, y133, y134, y135, y136, y137, y138, y139, y140, y141, y142, y143, y144, y145, y146, y147, y148, y149, y150, y151, y152, y153, y154, y155, y156, y157, y158, y159, y160, y161, y162, y163, y164, y165, y166, y167, y168, y169, y170, y171, y172, y173, y174, y175, y176, y177, y178, y179, y180, y181, y182, y183, y184, y185, y186, y187, y188, y189, y190, y191, y192, y193, y194, y195, y196, y197, y198, y199, y200, y201, y202, y203, y204, y205, y206, y207, y208, y209, y210, y211, y212, y213, y214, y215, y216, y217, y218, y219, y220, y221, y222, y223, y224, y225, y226, y227, y228, y229, y230, y231, y232, y233, y234, y235, y236], defers := [] } V2) (u0 u1 u4 u5 u6 u8 u9 u10 u11 u12 u13 u14 u15 u16 u17 u18 u19 u20 u21 u22 u23 u24 u25 u26 u27 u28 u29 u30 u31 u32 u33 u34 u35 u36 u37 u38 u39 u40 u41 u42 u43 u44 u45 u46 u47 u48 u49 u50 u51 u52 u53 u54 u55 u56 u57 u58 u59 u60 u61 u62 u63 u64 u65 u66 u67 u68 u69 u70 u71 u72 u73 u74 u75 u76 u77 u78 u79 u80 u81 u82 u83 u84 u85 u86 u87 u88 u89 u90 u91 u92 u93 u94 u95 u96 u97 u98 u99 u100 u101 u102 u103 u104 u105 u106 u107 u108 u109 u110 u111 u112 u113 u114 u115 u116 u117 u118 u119 u120 u121 u122 u123 u124 u125 u126 u127 u128 u129 u130 u131 u132 u133 u134 u135 u136 u137 u138 u139 u140 u141 u142 u143 u144 u145 u146 u147 u148 u149 u150 u151 u152 u153 u154 u155 u156 u157 u158 u159 u160 u161 u162 u163 u164 u165 u166 u167 u168 u169 u170 u171 u172 u173 u174 u175 u176 u177 u178 u179 u180 u181 u182 u183 u184 u185 u186 u187 u188 u189 u190 u191 u192 u193 u194 u195 u196 u197 u198 u199 u200 u201 u202 u203 u204 u205 u206 u207 u208 u209 u210 u211 u212 u213 u214 u215 u216 u217 u218 u219 u220 u221 u222 u223 u224 u225 u226 u227 u228 u229 u230 u231 u232 u233 u234 u235 u236 : Value) :
 ∀ K : Act → World → Prop, (∀ a w2, bdT33.wp Tryz.prog (bodyPost Tryz.prog Tryz.f44 (IntBelow out w)) a w2 → K a w2) → bdR32.wp Tryz.prog (Exit.then K (bodyPost Tryz.prog Tryz.f44 (IntBelow out w))) { tmps := #[u0, u1, .slice A2 LL c2, .pointer (some ⟨X3, 0, none⟩), u4, u5, u6, .pointer (some ⟨X7, 0, none⟩), u8, u9, u10, u11, u12, u13, u14, u15, u16, u17, u18, u19, u20, u21, u22, u23, u24, u25, u26, u27, u28, u29, u30, u31, u32, u33, u34, u35, u36, u37, u38, u39, u40, u41, u42, u43, u44, u45, u46, u47, u48, u49, u50, u51, u52, u53, u54, u55, u56, u57, u58, u59, u60, u61, u62, u63, u64, u65, u66, u67, u68, u69, u70, u71, u72, u73, u74, u75, u76, u77, u78, u79, u80, u81, u82, u83, u84, u85, u86, u87, u88, u89, u90, u91, u92, u93, u94, u95, u96, u97, u98, u99, u100, u101, u102, u103, u104, u105, u106, u107, u108, u109, u110, u111, u112, u113, u114, u115, u116, u117, u118, u119, u120, u121, u122, u123, u124, u125, u126, u127, u128, u129, u130, u131, u132, u133, u134, u135, u136, u137, u138, u139, u140, u141, u142, u143, u144, u145, u146, u147, u148, u149, u150, u151, u152, u153, u154, u155, u156, u157, u158, u159, u160, u161, u162, u163, u164, u165, u166, u167, u168, u169, u170, u171, u172, u173, u174, u175, u176, u177, u178, u179, u180, u181, u182, u183, u184, u185, u186, u187, u188, u189, u190, u191, u192, u193, u194, u195, u196, u197, u198, u199, u200, u201, u202, u203, u204, u205, u206, u207, u208, u209, u210, u211, u212, u213, u214, u215, u216, u217, u218, u219, u220, u221, u222, u223, u224, u225, u226, u227, u228, u229, u230, u231, u232, u233, u234, u235, u236], defers := [] } V := by
 intro K hK0
 have HK0 := Lib.hid hK0
 have HEND := Lib.hid hend
 have HS := Lib.hid hS
 have HPRE := Lib.hid (fun (V2 : World) (h : Below V.heap.size V V2) => ints_rowI (hl.below h))
 have HVAR := Lib.hid (fun (V2 : World) (h : Below V.heap.size V V2) => (show Calls Tryz.prog 45 #[.agg #[.int .i64 k, .int .i64 n, .slice Aa na ca, .slice Ak ks.length ck, .slice Al nb cb]] V2 fun e w' => ∃ A c, e = .returned (.slice A g.length c) ∧ IntsIn w'.heap.size w' A g ∧ g.length ≤ c ∧ (∀ a, A = some a → V2.heap.size ≤ a.block) ∧ Below V2.heap.size V2 w' from hgv ▸ rvars_any k n Aa Ak Al na ca ck nb cb ks V2 ((hk.below h).mono h.size) hkc))
 have D0 := Lib.hid (show Below V.heap.size V V.drew from (Below.refl _ _).drew)
 have hl1 : (iv l).length = LL * 1 := by simp [iv, hLL]
 have hl2 : (iv g).length = g.length * 1 := by simp [iv]
 have hal8 := hsum
 have hlg : (l ++ g).length = LL + g.length := by simp [hLL]
 rw [hlg] at hsum
 obtain ⟨inf0, hinf, hz0, hz1, hz2⟩ := info_parts infoI
 clear hK0 hend hS hl hk hgv hlg
 unfold bdR32 Tryz.f44
 dsimp only
 refine start_ (n := 7) (S := fun w' => True) (ds := []) #[false, false, false, false, false, false, false] (by kernel_rfl) rfl rfl trivial (fun hHeld => ?_)
 clear hHeld
 refine inv_at (B := [0, 0, 3, 0, 8, 31, 63]) [0, 1, 2, 3, 4, 5, 6] (fun a0_ b a w' => ∃ vE v1 Ag cg A3 c3, a = putSel a0_ b [(0, 207, vE), (1, 208, .slice A2 LL c2), (2, 209, v1), (3, 210, .agg #[.int .i64 k, .int .i64 n, .slice Aa na ca, .slice Ak ks.length ck, .slice Al nb cb]), (4, 211, .slice Ag g.length cg), (5, 212, .slice A3 (l ++ g).length c3), (6, 2, .slice A3 (l ++ g).length c3)] ∧ RS V l g b vE v1 Ag A3 c3 w') rfl (by kernel_rfl) (by kernel_rfl) (by kernel_rfl) ?_ ?_ ?_
 · exact ⟨.bool false, .bool false, none, 0, none, 0, by simp only [putSel, Bool.false_eq_true, if_false], RS.start D0.out⟩
 · skip
   refine steps_cons ?_ ?_
   · rintro b a w' ⟨vE, v1, Ag, cg, A3, c3, ha, hI⟩ hb_ hon hoff
     refine ⟨_, rfl, fun K hK => ?_⟩
     replace ha := Lib.hid ha
     have HI := Lib.hid hI
     clear hI
     refine value_ (w1 := w'.alloc (.cells #[] 3)) (v := .slice (some ⟨w'.heap.size, 0, none⟩) 0 0) (by rfl) rfl ?_ ?_
     · go_simp
       try rfl
     exact hK.out _ _ ⟨.slice (some ⟨w'.heap.size, 0, none⟩) 0 0, v1, Ag, cg, A3, c3, (by rw [ha.out]; exact putSel_upk 0 hb_ rfl rfl rfl), HI.out.row (hoff 2 (by kernel_rfl)) (hoff 5 (by kernel_rfl))⟩
   refine steps_cons ?_ ?_
   · rintro b a w' ⟨vE, v1, Ag, cg, A3, c3, ha, hI⟩ hb_ hon hoff
     refine ⟨_, rfl, fun K hK => ?_⟩
     have e2 : a.tmps[2]? = some (.slice A2 LL c2) := by rw [ha]; exact (putSel_not (hoff 6 (by kernel_rfl)) rfl).trans rfl
     replace ha := Lib.hid ha
     have HI := Lib.hid hI
     clear hI
     refine value_ (w1 := w') (v := .slice A2 LL c2) (by rfl) rfl ?_ ?_
     · go_simp
       try rfl
     exact hK.out _ _ ⟨vE, v1, Ag, cg, A3, c3, (by rw [ha.out]; exact putSel_upk 1 hb_ rfl rfl rfl), HI.out.pass (by omega)⟩
   refine steps_cons ?_ ?_
   · rintro b a w' ⟨vE, v1, Ag, cg, A3, c3, ha, hI⟩ hb_ hon hoff
     refine ⟨_, rfl, fun K hK => ?_⟩
     have e207 : a.tmps[207]? = some (vE) := by rw [ha]; exact putSel_on (e := (0, 207, vE)) 0 rfl rfl (hon 0 (by kernel_rfl)) rfl
     have e208 : a.tmps[208]? = some (.slice A2 LL c2) := by rw [ha]; exact putSel_on (e := (1, 208, .slice A2 LL c2)) 1 rfl rfl (hon 1 (by kernel_rfl)) rfl
     replace ha := Lib.hid ha
     have HI := Lib.hid hI
     clear hI
     rw [if_pos (by rfl)]
     refine wp_append_row _ _ _ 30 rfl V.heap.size 3 inf0 _ 1 8 Tryz.underlying30 hinf hz0 hz1 hz2 rfl (by decide) _ 0 [] (by first | (simp only [Act.eval, Array.getD_eq_getD_getElem?, Option.getD_some, e207]; done) | (simp only [Act.eval, Array.getD_eq_getD_getElem?, Option.getD_some, e207]; rfl)) (HI.out.e0 (hon 0 (by kernel_rfl)) hb_) A2 LL c2 (iv l) (by first | (simp only [Act.eval, Array.getD_eq_getD_getElem?, Option.getD_some, e208]; done) | (simp only [Act.eval, Array.getD_eq_getD_getElem?, Option.getD_some, e208]; rfl)) hl1 (HPRE.out _ HI.out.bel) (iv_one _) (by simp only [maxLen]; omega) (by omega) HI.out.bel.size ?_
     intro v' w2 hown hgr hat
     have hown' := own_size (show l.length = 0 + LL by omega) hown
     exact hK.out _ _ ⟨vE, v', Ag, cg, A3, c3, (by rw [ha.out]; exact putSel_upk 2 hb_ rfl rfl rfl), HI.out.app1 (hon 0 (by kernel_rfl)) hb_ hown' hgr⟩
   refine steps_cons ?_ ?_
   · rintro b a w' ⟨vE, v1, Ag, cg, A3, c3, ha, hI⟩ hb_ hon hoff
     refine ⟨_, rfl, fun K hK => ?_⟩
     have e7 : a.tmps[7]? = some (.pointer (some ⟨X7, 0, none⟩)) := by rw [ha]; exact (putSel_off rfl).trans rfl
     obtain ⟨z0, z1, z2, z3, z4⟩ := HS.out w' hI.bel
     replace ha := Lib.hid ha
     have HI := Lib.hid hI
     clear hI
     refine value_ (w1 := w') (v := .agg #[.int .i64 k, .int .i64 n, .slice Aa na ca, .slice Ak ks.length ck, .slice Al nb cb]) (by rfl) rfl ?_ ?_
     · go_simp
       try rfl
     exact hK.out _ _ ⟨vE, v1, Ag, cg, A3, c3, (by rw [ha.out]; exact putSel_upk 3 hb_ rfl rfl rfl), HI.out.pass (by omega)⟩
   refine steps_cons ?_ ?_
   · rintro b a w' ⟨vE, v1, Ag, cg, A3, c3, ha, hI⟩ hb_ hon hoff
     refine ⟨_, rfl, fun K hK => ?_⟩
     have e210 : a.tmps[210]? = some (.agg #[.int .i64 k, .int .i64 n, .slice Aa na ca, .slice Ak ks.length ck, .slice Al nb cb]) := by rw [ha]; exact putSel_on (e := (3, 210, .agg #[.int .i64 k, .int .i64 n, .slice Aa na ca, .slice Ak ks.length ck, .slice Al nb cb])) 3 rfl rfl (hon 3 (by kernel_rfl)) rfl
     replace ha := Lib.hid ha
     have HI := Lib.hid hI
     clear hI
     refine goes_ Tryz.func45 (by kernel_rfl) rfl #[.agg #[.int .i64 k, .int .i64 n, .slice Aa na ca, .slice Ak ks.length ck, .slice Al nb cb]] (by rfl) rfl rfl (by first | (simp only [List.map_toArray, List.map_cons, List.map_nil, Act.eval, Array.getD_eq_getD_getElem?, Option.getD_some, e210]; done) | (simp only [List.map_toArray, List.map_cons, List.map_nil, Act.eval, Array.getD_eq_getD_getElem?, Option.getD_some, e210]; rfl)) ?_
     refine (HVAR.out w' HI.out.bel).mono ?_
     rintro e w2 ⟨Ag', cg', rfl, hgi, hgc, hglo, hb2⟩
     exact ⟨_, rfl, hK.out _ _ ⟨vE, v1, Ag', cg', A3, c3, (by rw [ha.out]; exact putSel_upk 4 hb_ rfl rfl rfl), HI.out.vars (hoff 5 (by kernel_rfl)) hb2 hgi hglo⟩⟩
   refine steps_cons ?_ ?_
   · rintro b a w' ⟨vE, v1, Ag, cg, A3, c3, ha, hI⟩ hb_ hon hoff
     refine ⟨_, rfl, fun K hK => ?_⟩
     have e209 : a.tmps[209]? = some (v1) := by rw [ha]; exact putSel_on (e := (2, 209, v1)) 2 rfl rfl (hon 2 (by kernel_rfl)) rfl
     have e211 : a.tmps[211]? = some (.slice Ag g.length cg) := by rw [ha]; exact putSel_on (e := (4, 211, .slice Ag g.length cg)) 4 rfl rfl (hon 4 (by kernel_rfl)) rfl
     have o6 : b 6 = false := hoff 6 (by kernel_rfl)
     replace ha := Lib.hid ha
     have HI := Lib.hid hI
     clear hI
     rw [if_pos (by rfl)]
     refine wp_append_row _ _ _ 30 rfl V.heap.size 3 inf0 _ 1 8 Tryz.underlying30 hinf hz0 hz1 hz2 rfl (by decide) _ l.length (iv l) (by first | (simp only [Act.eval, Array.getD_eq_getD_getElem?, Option.getD_some, e209]; done) | (simp only [Act.eval, Array.getD_eq_getD_getElem?, Option.getD_some, e209]; rfl)) (HI.out.e1 (hon 2 (by kernel_rfl)) hb_) Ag g.length cg (iv g) (by first | (simp only [Act.eval, Array.getD_eq_getD_getElem?, Option.getD_some, e211]; done) | (simp only [Act.eval, Array.getD_eq_getD_getElem?, Option.getD_some, e211]; rfl)) hl2 (ints_rowI (HI.out.g4 (hon 4 (by kernel_rfl)) hb_)) (iv_one _) (by simp only [maxLen]; omega) (by omega) HI.out.bel.size ?_
     intro v' w2 hown hgr hat
     have hown' : w2.ownsRow V.heap.size 3 1 v' (l ++ g).length (iv (l ++ g)) := by simpa [iv] using hown
     obtain ⟨A4, c4, rfl, hi3, hc3, -⟩ := own_intsS hown' hal8
     exact hK.out _ _ ⟨vE, v1, Ag, cg, A4, c4, (by rw [ha.out, putSel_dep (L' := [(0, 207, vE), (1, 208, .slice A2 LL c2), (2, 209, v1), (3, 210, .agg #[.int .i64 k, .int .i64 n, .slice Aa na ca, .slice Ak ks.length ck, .slice Al nb cb]), (4, 211, .slice Ag g.length cg), (5, 212, .slice A3 (l ++ g).length c3), (6, 2, .slice A4 (l ++ g).length c4)]) (.same (.same (.same (.same (.same (.same (.turn o6 .nil)))))))]; exact putSel_upk 5 hb_ rfl rfl rfl), HI.out.app2 (hon 2 (by kernel_rfl)) (hon 4 (by kernel_rfl)) hb_ hi3 hc3 hgr⟩
   refine steps_cons ?_ ?_
   · rintro b a w' ⟨vE, v1, Ag, cg, A3, c3, ha, hI⟩ hb_ hon hoff
     refine ⟨_, rfl, fun K hK => ?_⟩
     have e212 : a.tmps[212]? = some (.slice A3 (l ++ g).length c3) := by rw [ha]; exact putSel_on (e := (5, 212, .slice A3 (l ++ g).length c3)) 5 rfl rfl (hon 5 (by kernel_rfl)) rfl
     replace ha := Lib.hid ha
     have HI := Lib.hid hI
     clear hI
     refine value_ (w1 := w') (v := .slice A3 (l ++ g).length c3) (by rfl) rfl ?_ ?_
     · go_simp
       try rfl
     exact hK.out _ _ ⟨vE, v1, Ag, cg, A3, c3, (by rw [ha.out]; exact putSel_upk 6 hb_ rfl rfl rfl), HI.out.pass (by omega)⟩
   exact steps_nil
 rintro b a w' hall ⟨vE, v1, Ag, cg, A3, c3, ha, hI⟩
 have hl : ∀ j, j ≤ 6 → b j = true := fun j hj => hall j (by
  have : j = 0 ∨ j = 1 ∨ j = 2 ∨ j = 3 ∨ j = 4 ∨ j = 5 ∨ j = 6 := by omega
  rcases this with rfl | rfl | rfl | rfl | rfl | rfl | rfl <;> rfl)
 have b0 := hl 0 (by decide)
 have b1 := hl 1 (by decide)
 have b2 := hl 2 (by decide)
 have b3 := hl 3 (by decide)
 have b4 := hl 4 (by decide)
 have b5 := hl 5 (by decide)
 have b6 := hl 6 (by decide)
 obtain ⟨g1, g2⟩ := hI.e2 b5
 subst ha
 simp only [putSel, b0, b1, b2, b3, b4, b5, b6, if_true, Act.put, List.setIfInBounds_toArray, List.set_cons_zero, List.set_cons_succ, Exit.then]
 exact HK0.out _ _ (HEND.out _ A3 c3 hI.bel g1 g2 _ _ _ _ _ _ _ _ _ _ _ _ _ _ _ _ _ _ _ _ _ _ _ _ _ _ _ _ _ _ _ _ _ _ _ _ _ _ _ _ _ _ _ _ _ _ _ _ _ _ _ _ _ _ _ _ _ _ _ _ _ _ _ _ _ _ _ _ _ _ _ _ _ _ _ _ _ _ _ _ _ _ _ _ _ _ _ _ _ _ _ _ _ _ _ _ _ _ _ _ _ _ _ _ _ _ _ _ _ _ _ _ _ _ _ _ _ _ _ _ _ _ _ _ _ _ _ _ _ _ _ _ _ _ _ _ _ _ _ _ _ _ _ _ _ _ _ _ _ _ _ _ _ _ _ _ _ _ _ _ _ _ _ _ _ _ _ _ _ _ _ _ _ _ _ _ _ _ _ _ _ _ _ _ _ _ _ _ _ _ _ _ _ _ _ _ _ _ _ _ _ _ _ _ _ _ _ _ _ _ _ _ _ _ _ _ _ _ _ _ _ _ _ _ _ _ _ _ _ _ _ _ _ _)
section
variable {w W1 : World} {X3 X7 : Nat} {x k n : Int} {Aa Ak Al A2 : Option Addr} {ats : List Atm} {ks : List Int} {ca ck nb cb c2 : Nat} {l : List Int} {out : Int} {V : World}
theorem bd_T31 (C : BCtx w W1 X3 X7 x k n Aa Ak Al A2 ats ks ca ck nb cb c2 l) (hV : Below W1.heap.size W1 V) (hsm : (l.length + ks.length) * 8 ≤ 140737488351232) (hout : out = if ats.all (asksB (if k = 10 then l ++ groupV ks else l)) = false then 16 else 0) (u0 u1 u4 u5 u6 u8 u9 u10 u11 u12 u13 u14 u15 u16 u17 u18 u19 u20 u21 u22 u23 u24 u25 u26 u27 u28 u29 u30 u31 u32 u33 u34 u35 u36 u37 u38 u39 u40 u41 u42 u43 u44 u45 u46 u47 u48 u49 u50 u51 u52 u53 u54 u55 u56 u57 u58 u59 u60 u61 u62 u63 u64 u65 u66 u67 u68 u69 u70 u71 u72 u73 u74 u75 u76 u77 u78 u79 u80 u81 u82 u83 u84 u85 u86 u87 u88 u89 u90 u91 u92 u93 u94 u95 u96 u97 u98 u99 u100 u101 u102 u103 u104 u105 u106 u107 u108 u109 u110 u111 u112 u113 u114 u115 u116 u117 u118 u119 u120 u121 u122 u123 u124 u125 u126 u127 u128 u129 u130 u131 u132 u133 u134 u135 u136 u137 u138 u139 u140 u141 u142 u143 u144 u145 u146 u147 u148 u149 u150 u151 u152 u153 u154 u155 u156 u157 u158 u159 u160 u161 u162 u163 u164 u165 u166 u167 u168 u169 u170 u171 u172 u173 u174 u175 u176 u177 u178 u179 u180 u181 u182 u183 u184 u185 u186 u187 u188 u189 u190 u191 u192 u193 u194 u195 u196 u197 u198 u199 u200 u201 u202 u203 u204 u205 u206 u207 u208 u209 u210 u211 u212 u213 u214 u215 u216 u217 u218 u219 u220 u221 u222 u223 u224 u225 u226 u227 u228 u229 u230 u231 u232 u233 u234 u235 u236 : Value) :
 bdT31.wp Tryz.prog (bodyPost Tryz.prog Tryz.f44 (IntBelow out w)) { tmps := #[u0, u1, .slice A2 l.length c2, .pointer (some ⟨X3, 0, none⟩), u4, u5, u6, .pointer (some ⟨X7, 0, none⟩), u8, u9, u10, u11, u12, u13, u14, u15, u16, u17, u18, u19, u20, u21, u22, u23, u24, u25, u26, u27, u28, u29, u30, u31, u32, u33, u34, u35, u36, u37, u38, u39, u40, u41, u42, u43, u44, u45, u46, u47, u48, u49, u50, u51, u52, u53, u54, u55, u56, u57, u58, u59, u60, u61, u62, u63, u64, u65, u66, u67, u68, u69, u70, u71, u72, u73, u74, u75, u76, u77, u78, u79, u80, u81, u82, u83, u84, u85, u86, u87, u88, u89, u90, u91, u92, u93, u94, u95, u96, u97, u98, u99, u100, u101, u102, u103, u104, u105, u106, u107, u108, u109, u110, u111, u112, u113, u114, u115, u116, u117, u118, u119, u120, u121, u122, u123, u124, u125, u126, u127, u128, u129, u130, u131, u132, u133, u134, u135, u136, u137, u138, u139, u140, u141, u142, u143, u144, u145, u146, u147, u148, u149, u150, u151, u152, u153, u154, u155, u156, u157, u158, u159, u160, u161, u162, u163, u164, u165, u166, u167, u168, u169, u170, u171, u172, u173, u174, u175, u176, u177, u178, u179, u180, u181, u182, u183, u184, u185, u186, u187, u188, u189, u190, u191, u192, u193, u194, u195, u196, u197, u198, u199, u200, u201, u202, u203, u204, u205, u206, u207, u208, u209, u210, u211, u212, u213, u214, u215, u216, u217, u218, u219, u220, u221, u222, u223, u224, u225, u226, u227, u228, u229, u230, u231, u232, u233, u234, u235, u236], defers := [] } V := by
 obtain ⟨q0, -, -, -, -⟩ := C.cells7 hV
 by_cases h10 : k = 10
 · have hk10 : (k == 10) = true := by simpa using h10
   rw [if_pos h10] at hout
   have HOUT := Lib.hid hout
   have HC := Lib.hid C
   have HV := Lib.hid hV
   have HSM := Lib.hid hsm
   have HR := Lib.hid (fun (y : Unit) => bd_region32 (w := w) (out := out) (X3 := X3) (g := groupV ks) (LL := l.length) rfl (C.known hV) C.hlc (by
    have := groupV_len ks
    rw [List.length_append, this]; omega) rfl (fun V2 h2 => HC.out.cells7 (HV.out.trans (h2.mono HV.out.size))) ((C.hk.below hV).mono hV.size) C.hkc (fun V2 A3 c3 h2 hi hc y0 y1 y4 y5 y6 y8 y9 y10 y11 y12 y13 y14 y15 y16 y17 y18 y19 y20 y21 y22 y23 y24 y25 y26 y27 y28 y29 y30 y31 y32 y33 y34 y35 y36 y37 y38 y39 y40 y41 y42 y43 y44 y45 y46 y47 y48 y49 y50 y51 y52 y53 y54 y55 y56 y57 y58 y59 y60 y61 y62 y63 y64 y65 y66 y67 y68 y69 y70 y71 y72 y73 y74 y75 y76 y77 y78 y79 y80 y81 y82 y83 y84 y85 y86 y87 y88 y89 y90 y91 y92 y93 y94 y95 y96 y97 y98 y99 y100 y101 y102 y103 y104 y105 y106 y107 y108 y109 y110 y111 y112 y113 y114 y115 y116 y117 y118 y119 y120 y121 y122 y123 y124 y125 y126 y127 y128 y129 y130 y131 y132 y133 y134 y135 y136 y137 y138 y139 y140 y141 y142 y143 y144 y145 y146 y147 y148 y149 y150 y151 y152 y153 y154 y155 y156 y157 y158 y159 y160 y161 y162 y163 y164 y165 y166 y167 y168 y169 y170 y171 y172 y173 y174 y175 y176 y177 y178 y179 y180 y181 y182 y183 y184 y185 y186 y187 y188 y189 y190 y191 y192 y193 y194 y195 y196 y197 y198 y199 y200 y201 y202 y203 y204 y205 y206 y207 y208 y209 y210 y211 y212 y213 y214 y215 y216 y217 y218 y219 y220 y221 y222 y223 y224 y225 y226 y227 y228 y229 y230 y231 y232 y233 y234 y235 y236 => bd_T33 HC.out (HV.out.trans (h2.mono HV.out.size)) hi hc HOUT.out _ _ _ _ _ _ _ _ _ _ _ _ _ _ _ _ _ _ _ _ _ _ _ _ _ _ _ _ _ _ _ _ _ _ _ _ _ _ _ _ _ _ _ _ _ _ _ _ _ _ _ _ _ _ _ _ _ _ _ _ _ _ _ _ _ _ _ _ _ _ _ _ _ _ _ _ _ _ _ _ _ _ _ _ _ _ _ _ _ _ _ _ _ _ _ _ _ _ _ _ _ _ _ _ _ _ _ _ _ _ _ _ _ _ _ _ _ _ _ _ _ _ _ _ _ _ _ _ _ _ _ _ _ _ _ _ _ _ _ _ _ _ _ _ _ _ _ _ _ _ _ _ _ _ _ _ _ _ _ _ _ _ _ _ _ _ _ _ _ _ _ _ _ _ _ _ _ _ _ _ _ _ _ _ _ _ _ _ _ _ _ _ _ _ _ _ _ _ _ _ _ _ _ _ _ _ _ _ _ _ _ _ _ _ _ _ _ _ _ _ _ _ _ _ _ _ _ _ _ _ _ _ _ _))
   clear C hV hsm hout h10
   obtain ⟨Q, hQ⟩ : ∃ Q, (bodyPost Tryz.prog Tryz.f44 (IntBelow out w)) = Q := ⟨_, rfl⟩
   have HQ := Lib.hid hQ
   rw [hQ]
   clear hQ
   unfold bdT31 Tryz.f44
   dsimp only
   go_wp2_with fail
   have hQ2 := HQ.out
   subst hQ2
   exact HR.out () _ _ _ _ _ _ _ _ _ _ _ _ _ _ _ _ _ _ _ _ _ _ _ _ _ _ _ _ _ _ _ _ _ _ _ _ _ _ _ _ _ _ _ _ _ _ _ _ _ _ _ _ _ _ _ _ _ _ _ _ _ _ _ _ _ _ _ _ _ _ _ _ _ _ _ _ _ _ _ _ _ _ _ _ _ _ _ _ _ _ _ _ _ _ _ _ _ _ _ _ _ _ _ _ _ _ _ _ _ _ _ _ _ _ _ _ _ _ _ _ _ _ _ _ _ _ _ _ _ _ _ _ _ _ _ _ _ _ _ _ _ _ _ _ _ _ _ _ _ _ _ _ _ _ _ _ _ _ _ _ _ _ _ _ _ _ _ _ _ _ _ _ _ _ _ _ _ _ _ _ _ _ _ _ _ _ _ _ _ _ _ _ _ _ _ _ _ _ _ _ _ _ _ _ _ _ _ _ _ _ _ _ _ _ _ _ _ _ _ _ _ _ _ _ _ _ _ _ _ _ _ _ _ _ _ ‹∀ (a : Act) (w : World), Code.wp Tryz.prog _ _ a w → _›
 · have hk10 : (k == 10) = false := by simpa using h10
   rw [if_neg h10] at hout
   have HR := Lib.hid (fun (y0 y1 y4 y5 y6 y8 y9 y10 y11 y12 y13 y14 y15 y16 y17 y18 y19 y20 y21 y22 y23 y24 y25 y26 y27 y28 y29 y30 y31 y32 y33 y34 y35 y36 y37 y38 y39 y40 y41 y42 y43 y44 y45 y46 y47 y48 y49 y50 y51 y52 y53 y54 y55 y56 y57 y58 y59 y60 y61 y62 y63 y64 y65 y66 y67 y68 y69 y70 y71 y72 y73 y74 y75 y76 y77 y78 y79 y80 y81 y82 y83 y84 y85 y86 y87 y88 y89 y90 y91 y92 y93 y94 y95 y96 y97 y98 y99 y100 y101 y102 y103 y104 y105 y106 y107 y108 y109 y110 y111 y112 y113 y114 y115 y116 y117 y118 y119 y120 y121 y122 y123 y124 y125 y126 y127 y128 y129 y130 y131 y132 y133 y134 y135 y136 y137 y138 y139 y140 y141 y142 y143 y144 y145 y146 y147 y148 y149 y150 y151 y152 y153 y154 y155 y156 y157 y158 y159 y160 y161 y162 y163 y164 y165 y166 y167 y168 y169 y170 y171 y172 y173 y174 y175 y176 y177 y178 y179 y180 y181 y182 y183 y184 y185 y186 y187 y188 y189 y190 y191 y192 y193 y194 y195 y196 y197 y198 y199 y200 y201 y202 y203 y204 y205 y206 y207 y208 y209 y210 y211 y212 y213 y214 y215 y216 y217 y218 y219 y220 y221 y222 y223 y224 y225 y226 y227 y228 y229 y230 y231 y232 y233 y234 y235 y236 : Value) => bd_T33 C hV (C.known hV) C.hlc hout y0 y1 y4 y5 y6 y8 y9 y10 y11 y12 y13 y14 y15 y16 y17 y18 y19 y20 y21 y22 y23 y24 y25 y26 y27 y28 y29 y30 y31 y32 y33 y34 y35 y36 y37 y38 y39 y40 y41 y42 y43 y44 y45 y46 y47 y48 y49 y50 y51 y52 y53 y54 y55 y56 y57 y58 y59 y60 y61 y62 y63 y64 y65 y66 y67 y68 y69 y70 y71 y72 y73 y74 y75 y76 y77 y78 y79 y80 y81 y82 y83 y84 y85 y86 y87 y88 y89 y90 y91 y92 y93 y94 y95 y96 y97 y98 y99 y100 y101 y102 y103 y104 y105 y106 y107 y108 y109 y110 y111 y112 y113 y114 y115 y116 y117 y118 y119 y120 y121 y122 y123 y124 y125 y126 y127 y128 y129 y130 y131 y132 y133 y134 y135 y136 y137 y138 y139 y140 y141 y142 y143 y144 y145 y146 y147 y148 y149 y150 y151 y152 y153 y154 y155 y156 y157 y158 y159 y160 y161 y162 y163 y164 y165 y166 y167 y168 y169 y170 y171 y172 y173 y174 y175 y176 y177 y178 y179 y180 y181 y182 y183 y184 y185 y186 y187 y188 y189 y190 y191 y192 y193 y194 y195 y196 y197 y198 y199 y200 y201 y202 y203 y204 y205 y206 y207 y208 y209 y210 y211 y212 y213 y214 y215 y216 y217 y218 y219 y220 y221 y222 y223 y224 y225 y226 y227 y228 y229 y230 y231 y232 y233 y234 y235 y236)
   clear C hV hsm hout h10
   suffices hs : ∀ K : Act → World → Prop, (∀ a w2, bdT33.wp Tryz.prog (bodyPost Tryz.prog Tryz.f44 (IntBelow out w)) a w2 → K a w2) → bdC31.wp Tryz.prog (Exit.then K (bodyPost Tryz.prog Tryz.f44 (IntBelow out w))) { tmps := #[u0, u1, .slice A2 l.length c2, .pointer (some ⟨X3, 0, none⟩), u4, u5, u6, .pointer (some ⟨X7, 0, none⟩), u8, u9, u10, u11, u12, u13, u14, u15, u16, u17, u18, u19, u20, u21, u22, u23, u24, u25, u26, u27, u28, u29, u30, u31, u32, u33, u34, u35, u36, u37, u38, u39, u40, u41, u42, u43, u44, u45, u46, u47, u48, u49, u50, u51, u52, u53, u54, u55, u56, u57, u58, u59, u60, u61, u62, u63, u64, u65, u66, u67, u68, u69, u70, u71, u72, u73, u74, u75, u76, u77, u78, u79, u80, u81, u82, u83, u84, u85, u86, u87, u88, u89, u90, u91, u92, u93, u94, u95, u96, u97, u98, u99, u100, u101, u102, u103, u104, u105, u106, u107, u108, u109, u110, u111, u112, u113, u114, u115, u116, u117, u118, u119, u120, u121, u122, u123, u124, u125, u126, u127, u128, u129, u130, u131, u132, u133, u134, u135, u136, u137, u138, u139, u140, u141, u142, u143, u144, u145, u146, u147, u148, u149, u150, u151, u152, u153, u154, u155, u156, u157, u158, u159, u160, u161, u162, u163, u164, u165, u166, u167, u168, u169, u170, u171, u172, u173, u174, u175, u176, u177, u178, u179, u180, u181, u182, u183, u184, u185, u186, u187, u188, u189, u190, u191, u192, u193, u194, u195, u196, u197, u198, u199, u200, u201, u202, u203, u204, u205, u206, u207, u208, u209, u210, u211, u212, u213, u214, u215, u216, u217, u218, u219, u220, u221, u222, u223, u224, u225, u226, u227, u228, u229, u230, u231, u232, u233, u234, u235, u236], defers := [] } V from wp_seq (hs _ (fun _ _ h => h))
   intro K hK
   have HK := Lib.hid (fun (y0 y1 y4 y5 y6 y8 y9 y10 y11 y12 y13 y14 y15 y16 y17 y18 y19 y20 y21 y22 y23 y24 y25 y26 y27 y28 y29 y30 y31 y32 y33 y34 y35 y36 y37 y38 y39 y40 y41 y42 y43 y44 y45 y46 y47 y48 y49 y50 y51 y52 y53 y54 y55 y56 y57 y58 y59 y60 y61 y62 y63 y64 y65 y66 y67 y68 y69 y70 y71 y72 y73 y74 y75 y76 y77 y78 y79 y80 y81 y82 y83 y84 y85 y86 y87 y88 y89 y90 y91 y92 y93 y94 y95 y96 y97 y98 y99 y100 y101 y102 y103 y104 y105 y106 y107 y108 y109 y110 y111 y112 y113 y114 y115 y116 y117 y118 y119 y120 y121 y122 y123 y124 y125 y126 y127 y128 y129 y130 y131 y132 y133 y134 y135 y136 y137 y138 y139 y140 y141 y142 y143 y144 y145 y146 y147 y148 y149 y150 y151 y152 y153 y154 y155 y156 y157 y158 y159 y160 y161 y162 y163 y164 y165 y166 y167 y168 y169 y170 y171 y172 y173 y174 y175 y176 y177 y178 y179 y180 y181 y182 y183 y184 y185 y186 y187 y188 y189 y190 y191 y192 y193 y194 y195 y196 y197 y198 y199 y200 y201 y202 y203 y204 y205 y206 y207 y208 y209 y210 y211 y212 y213 y214 y215 y216 y217 y218 y219 y220 y221 y222 y223 y224 y225 y226 y227 y228 y229 y230 y231 y232 y233 y234 y235 y236 : Value) => hK _ _ (HR.out y0 y1 y4 y5 y6 y8 y9 y10 y11 y12 y13 y14 y15 y16 y17 y18 y19 y20 y21 y22 y23 y24 y25 y26 y27 y28 y29 y30 y31 y32 y33 y34 y35 y36 y37 y38 y39 y40 y41 y42 y43 y44 y45 y46 y47 y48 y49 y50 y51 y52 y53 y54 y55 y56 y57 y58 y59 y60 y61 y62 y63 y64 y65 y66 y67 y68 y69 y70 y71 y72 y73 y74 y75 y76 y77 y78 y79 y80 y81 y82 y83 y84 y85 y86 y87 y88 y89 y90 y91 y92 y93 y94 y95 y96 y97 y98 y99 y100 y101 y102 y103 y104 y105 y106 y107 y108 y109 y110 y111 y112 y113 y114 y115 y116 y117 y118 y119 y120 y121 y122 y123 y124 y125 y126 y127 y128 y129 y130 y131 y132 y133 y134 y135 y136 y137 y138 y139 y140 y141 y142 y143 y144 y145 y146 y147 y148 y149 y150 y151 y152 y153 y154 y155 y156 y157 y158 y159 y160 y161 y162 y163 y164 y165 y166 y167 y168 y169 y170 y171 y172 y173 y174 y175 y176 y177 y178 y179 y180 y181 y182 y183 y184 y185 y186 y187 y188 y189 y190 y191 y192 y193 y194 y195 y196 y197 y198 y199 y200 y201 y202 y203 y204 y205 y206 y207 y208 y209 y210 y211 y212 y213 y214 y215 y216 y217 y218 y219 y220 y221 y222 y223 y224 y225 y226 y227 y228 y229 y230 y231 y232 y233 y234 y235 y236))
   clear HR hK
   obtain ⟨Q, hQ⟩ : ∃ Q, (bodyPost Tryz.prog Tryz.f44 (IntBelow out w)) = Q := ⟨_, rfl⟩
   rw [hQ]
   clear hQ
   unfold bdC31 Tryz.f44
   dsimp only
   go_wp2_with fail
   exact HK.out _ _ _ _ _ _ _ _ _ _ _ _ _ _ _ _ _ _ _ _ _ _ _ _ _ _ _ _ _ _ _ _ _ _ _ _ _ _ _ _ _ _ _ _ _ _ _ _ _ _ _ _ _ _ _ _ _ _ _ _ _ _ _ _ _ _ _ _ _ _ _ _ _ _ _ _ _ _ _ _ _ _ _ _ _ _ _ _ _ _ _ _ _ _ _ _ _ _ _ _ _ _ _ _ _ _ _ _ _ _ _ _ _ _ _ _ _ _ _ _ _ _ _ _ _ _ _ _ _ _ _ _ _ _ _ _ _ _ _ _ _ _ _ _ _ _ _ _ _ _ _ _ _ _ _ _ _ _ _ _ _ _ _ _ _ _ _ _ _ _ _ _ _ _ _ _ _ _ _ _ _ _ _ _ _ _ _ _ _ _ _ _ _ _ _ _ _ _ _ _ _ _ _ _ _ _ _ _ _ _ _ _ _ _ _ _ _ _ _ _ _ _ _ _ _ _ _ _ _ _ _ _ _ _
end
end Go.Proofs.YtnobggabjpcbfaaGreat
