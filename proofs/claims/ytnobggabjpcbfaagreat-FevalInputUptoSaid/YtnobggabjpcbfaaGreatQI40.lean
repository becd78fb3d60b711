/-
 1 texts of this seat in one: S5.
-/
import Derived.Test.YtnobggabjpcbfaaGreatQI39
set_option maxRecDepth 100000
set_option maxHeartbeats 16000000
set_option linter.unusedVariables false
set_option linter.unusedSimpArgs false
namespace Go.Proofs.YtnobggabjpcbfaaGreat
open Go.RowKit Go.Maps
section
variable {w W1 : World} {X3 X7 : Nat} {x k n : Int} {Aa Ak Al A2 : Option Addr} {ats : List Atm} {ks : List Int} {ca ck nb cb c2 : Nat} {l : List Int} {out : Int} {V : World} {nf : Nat}
theorem bd_T26 (C : BCtx w W1 X3 X7 x k n Aa Ak Al A2 ats ks ca ck nb cb c2 l) (hV : Below W1.heap.size W1 V) (hsm : (l.length + ks.length) * 8 ≤ 140737488351232) (hout : out = (if k = 8 ∧ risingB ks = false then 3 else (if ats.all (asksB (if k = 10 then l ++ groupV ks else l)) = false then 16 else 0))) (u0 u1 u4 u5 u6 u8 u9 u10 u11 u12 u13 u14 u15 u16 u17 u18 u19 u20 u21 u22 u23 u24 u25 u26 u27 u28 u29 u30 u31 u32 u33 u34 u35 u36 u37 u38 u39 u40 u41 u42 u43 u44 u45 u46 u47 u48 u49 u50 u51 u52 u53 u54 u55 u56 u57 u58 u59 u60 u61 u62 u63 u64 u65 u66 u67 u68 u69 u70 u71 u72 u73 u74 u75 u76 u77 u78 u79 u80 u81 u82 u83 u84 u85 u86 u87 u88 u89 u90 u91 u92 u93 u94 u95 u96 u97 u98 u99 u100 u101 u102 u103 u104 u105 u106 u107 u108 u109 u110 u111 u112 u113 u114 u115 u116 u117 u118 u119 u120 u121 u122 u123 u124 u125 u126 u127 u128 u129 u130 u131 u132 u133 u134 u135 u136 u137 u138 u139 u140 u141 u142 u143 u144 u145 u146 u147 u148 u149 u150 u151 u152 u153 u154 u155 u156 u157 u158 u159 u160 u161 u162 u163 u164 u165 u166 u167 u168 u169 u170 u171 u172 u173 u174 u175 u176 u177 u178 u179 u180 u181 u182 u183 u184 u185 u186 u187 u188 u189 u190 u191 u192 u193 u194 u195 u196 u197 u198 u199 u200 u201 u202 u203 u204 u205 u206 u207 u208 u209 u210 u211 u212 u213 u214 u215 u216 u217 u218 u219 u220 u221 u222 u223 u224 u225 u226 u227 u228 u229 u230 u231 u232 u233 u234 u235 u236 : Value) :
 bdT26.wp Tryz.prog (bodyPost Tryz.prog Tryz.f44 (IntBelow out w)) { tmps := #[u0, u1, .slice A2 l.length c2, .pointer (some ⟨X3, 0, none⟩), u4, u5, u6, .pointer (some ⟨X7, 0, none⟩), u8, u9, u10, u11, u12, u13, u14, u15, u16, u17, u18, u19, u20, u21, u22, u23, u24, u25, u26, u27, u28, u29, u30, u31, u32, u33, u34, u35, u36, u37, u38, u39, u40, u41, u42, u43, u44, u45, u46, u47, u48, u49, u50, u51, u52, u53, u54, u55, u56, u57, u58, u59, u60, u61, u62, u63, u64, u65, u66, u67, u68, u69, u70, u71, u72, u73, u74, u75, u76, u77, u78, u79, u80, u81, u82, u83, u84, u85, u86, u87, u88, u89, u90, u91, u92, u93, u94, u95, u96, u97, u98, u99, u100, u101, u102, u103, u104, u105, u106, u107, u108, u109, u110, u111, u112, u113, u114, u115, u116, u117, u118, u119, u120, u121, u122, u123, u124, u125, u126, u127, u128, u129, u130, u131, u132, u133, u134, u135, u136, u137, u138, u139, u140, u141, u142, u143, u144, u145, u146, u147, u148, u149, u150, u151, u152, u153, u154, u155, u156, u157, u158, u159, u160, u161, u162, u163, u164, u165, u166, u167, u168, u169, u170, u171, u172, u173, u174, u175, u176, u177, u178, u179, u180, u181, u182, u183, u184, u185, u186, u187, u188, u189, u190, u191, u192, u193, u194, u195, u196, u197, u198, u199, u200, u201, u202, u203, u204, u205, u206, u207, u208, u209, u210, u211, u212, u213, u214, u215, u216, u217, u218, u219, u220, u221, u222, u223, u224, u225, u226, u227, u228, u229, u230, u231, u232, u233, u234, u235, u236], defers := [] } V := by
 have hnext := fun (V2 : World) (h2 : Below V.heap.size V V2) (ho : out = (if ats.all (asksB (if k = 10 then l ++ groupV ks else l)) = false then 16 else 0)) (y0 y1 y4 y5 y6 y8 y9 y10 y11 y12 y13 y14 y15 y16 y17 y18 y19 y20 y21 y22 y23 y24 y25 y26 y27 y28 y29 y30 y31 y32 y33 y34 y35 y36 y37 y38 y39 y40 y41 y42 y43 y44 y45 y46 y47 y48 y49 y50 y51 y52 y53 y54 y55 y56 y57 y58 y59 y60 y61 y62 y63 y64 y65 y66 y67 y68 y69 y70 y71 y72 y73 y74 y75 y76 y77 y78 y79 y80 y81 y82 y83 y84 y85 y86 y87 y88 y89 y90 y91 y92 y93 y94 y95 y96 y97 y98 y99 y100 y101 y102 y103 y104 y105 y106 y107 y108 y109 y110 y111 y112 y113 y114 y115 y116 y117 y118 y119 y120 y121 y122 y123 y124 y125 y126 y127 y128 y129 y130 y131 y132 y133 y134 y135 y136 y137 y138 y139 y140 y141 y142 y143 y144 y145 y146 y147 y148 y149 y150 y151 y152 y153 y154 y155 y156 y157 y158 y159 y160 y161 y162 y163 y164 y165 y166 y167 y168 y169 y170 y171 y172 y173 y174 y175 y176 y177 y178 y179 y180 y181 y182 y183 y184 y185 y186 y187 y188 y189 y190 y191 y192 y193 y194 y195 y196 y197 y198 y199 y200 y201 y202 y203 y204 y205 y206 y207 y208 y209 y210 y211 y212 y213 y214 y215 y216 y217 y218 y219 y220 y221 y222 y223 y224 y225 y226 y227 y228 y229 y230 y231 y232 y233 y234 y235 y236 : Value) => bd_T31 C (hV.trans (h2.mono hV.size)) hsm ho y0 y1 y4 y5 y6 y8 y9 y10 y11 y12 y13 y14 y15 y16 y17 y18 y19 y20 y21 y22 y23 y24 y25 y26 y27 y28 y29 y30 y31 y32 y33 y34 y35 y36 y37 y38 y39 y40 y41 y42 y43 y44 y45 y46 y47 y48 y49 y50 y51 y52 y53 y54 y55 y56 y57 y58 y59 y60 y61 y62 y63 y64 y65 y66 y67 y68 y69 y70 y71 y72 y73 y74 y75 y76 y77 y78 y79 y80 y81 y82 y83 y84 y85 y86 y87 y88 y89 y90 y91 y92 y93 y94 y95 y96 y97 y98 y99 y100 y101 y102 y103 y104 y105 y106 y107 y108 y109 y110 y111 y112 y113 y114 y115 y116 y117 y118 y119 y120 y121 y122 y123 y124 y125 y126 y127 y128 y129 y130 y131 y132 y133 y134 y135 y136 y137 y138 y139 y140 y141 y142 y143 y144 y145 y146 y147 y148 y149 y150 y151 y152 y153 y154 y155 y156 y157 y158 y159 y160 y161 y162 y163 y164 y165 y166 y167 y168 y169 y170 y171 y172 y173 y174 y175 y176 y177 y178 y179 y180 y181 y182 y183 y184 y185 y186 y187 y188 y189 y190 y191 y192 y193 y194 y195 y196 y197 y198 y199 y200 y201 y202 y203 y204 y205 y206 y207 y208 y209 y210 y211 y212 y213 y214 y215 y216 y217 y218 y219 y220 y221 y222 y223 y224 y225 y226 y227 y228 y229 y230 y231 y232 y233 y234 y235 y236
 suffices hs : ∀ K : Act → World → Prop, (∀ a w2, bdT31.wp Tryz.prog (bodyPost Tryz.prog Tryz.f44 (IntBelow out w)) a w2 → K a w2) → bdC26.wp Tryz.prog (Exit.then K (bodyPost Tryz.prog Tryz.f44 (IntBelow out w))) { tmps := #[u0, u1, .slice A2 l.length c2, .pointer (some ⟨X3, 0, none⟩), u4, u5, u6, .pointer (some ⟨X7, 0, none⟩), u8, u9, u10, u11, u12, u13, u14, u15, u16, u17, u18, u19, u20, u21, u22, u23, u24, u25, u26, u27, u28, u29, u30, u31, u32, u33, u34, u35, u36, u37, u38, u39, u40, u41, u42, u43, u44, u45, u46, u47, u48, u49, u50, u51, u52, u53, u54, u55, u56, u57, u58, u59, u60, u61, u62, u63, u64, u65, u66, u67, u68, u69, u70, u71, u72, u73, u74, u75, u76, u77, u78, u79, u80, u81, u82, u83, u84, u85, u86, u87, u88, u89, u90, u91, u92, u93, u94, u95, u96, u97, u98, u99, u100, u101, u102, u103, u104, u105, u106, u107, u108, u109, u110, u111, u112, u113, u114, u115, u116, u117, u118, u119, u120, u121, u122, u123, u124, u125, u126, u127, u128, u129, u130, u131, u132, u133, u134, u135, u136, u137, u138, u139, u140, u141, u142, u143, u144, u145, u146, u147, u148, u149, u150, u151, u152, u153, u154, u155, u156, u157, u158, u159, u160, u161, u162, u163, u164, u165, u166, u167, u168, u169, u170, u171, u172, u173, u174, u175, u176, u177, u178, u179, u180, u181, u182, u183, u184, u185, u186, u187, u188, u189, u190, u191, u192, u193, u194, u195, u196, u197, u198, u199, u200, u201, u202, u203, u204, u205, u206, u207, u208, u209, u210, u211, u212, u213, u214, u215, u216, u217, u218, u219, u220, u221, u222, u223, u224, u225, u226, u227, u228, u229, u230, u231, u232, u233, u234, u235, u236], defers := [] } V from wp_seq (hs _ (fun _ _ h => h))
 intro K hK
 have HK := Lib.hid (fun (V2 : World) (h2 : Below V.heap.size V V2) (ho : out = (if ats.all (asksB (if k = 10 then l ++ groupV ks else l)) = false then 16 else 0)) (y0 y1 y4 y5 y6 y8 y9 y10 y11 y12 y13 y14 y15 y16 y17 y18 y19 y20 y21 y22 y23 y24 y25 y26 y27 y28 y29 y30 y31 y32 y33 y34 y35 y36 y37 y38 y39 y40 y41 y42 y43 y44 y45 y46 y47 y48 y49 y50 y51 y52 y53 y54 y55 y56 y57 y58 y59 y60 y61 y62 y63 y64 y65 y66 y67 y68 y69 y70 y71 y72 y73 y74 y75 y76 y77 y78 y79 y80 y81 y82 y83 y84 y85 y86 y87 y88 y89 y90 y91 y92 y93 y94 y95 y96 y97 y98 y99 y100 y101 y102 y103 y104 y105 y106 y107 y108 y109 y110 y111 y112 y113 y114 y115 y116 y117 y118 y119 y120 y121 y122 y123 y124 y125 y126 y127 y128 y129 y130 y131 y132 y133 y134 y135 y136 y137 y138 y139 y140 y141 y142 y143 y144 y145 y146 y147 y148 y149 y150 y151 y152 y153 y154 y155 y156 y157 y158 y159 y160 y161 y162 y163 y164 y165 y166 y167 y168 y169 y170 y171 y172 y173 y174 y175 y176 y177 y178 y179 y180 y181 y182 y183 y184 y185 y186 y187 y188 y189 y190 y191 y192 y193 y194 y195 y196 y197 y198 y199 y200 y201 y202 y203 y204 y205 y206 y207 y208 y209 y210 y211 y212 y213 y214 y215 y216 y217 y218 y219 y220 y221 y222 y223 y224 y225 y226 y227 y228 y229 y230 y231 y232 y233 y234 y235 y236 : Value) => hK _ _ (hnext V2 h2 ho y0 y1 y4 y5 y6 y8 y9 y10 y11 y12 y13 y14 y15 y16 y17 y18 y19 y20 y21 y22 y23 y24 y25 y26 y27 y28 y29 y30 y31 y32 y33 y34 y35 y36 y37 y38 y39 y40 y41 y42 y43 y44 y45 y46 y47 y48 y49 y50 y51 y52 y53 y54 y55 y56 y57 y58 y59 y60 y61 y62 y63 y64 y65 y66 y67 y68 y69 y70 y71 y72 y73 y74 y75 y76 y77 y78 y79 y80 y81 y82 y83 y84 y85 y86 y87 y88 y89 y90 y91 y92 y93 y94 y95 y96 y97 y98 y99 y100 y101 y102 y103 y104 y105 y106 y107 y108 y109 y110 y111 y112 y113 y114 y115 y116 y117 y118 y119 y120 y121 y122 y123 y124 y125 y126 y127 y128 y129 y130 y131 y132 y133 y134 y135 y136 y137 y138 y139 y140 y141 y142 y143 y144 y145 y146 y147 y148 y149 y150 y151 y152 y153 y154 y155 y156 y157 y158 y159 y160 y161 y162 y163 y164 y165 y166 y167 y168 y169 y170 y171 y172 y173 y174 y175 y176 y177 y178 y179 y180 y181 y182 y183 y184 y185 y186 y187 y188 y189 y190 y191 y192 y193 y194 y195 y196 y197 y198 y199 y200 y201 y202 y203 y204 y205 y206 y207 y208 y209 y210 y211 y212 y213 y214 y215 y216 y217 y218 y219 y220 y221 y222 y223 y224 y225 y226 y227 y228 y229 y230 y231 y232 y233 y234 y235 y236))
 have HO := Lib.hid hout
 have HB := Lib.hid (C.out_ hV)
 obtain ⟨q0, -, -, q3, -⟩ := C.cells7 hV
 have HQ7 := Lib.hid (fun (V2 : World) (h2 : Below V.heap.size V V2) => C.cells7 (hV.trans (h2.mono hV.size)))
 have HKEY := Lib.hid (fun (V2 : World) (h2 : Below V.heap.size V V2) => C.keys (hV.trans (h2.mono hV.size)))
 have h64 := C.hk.1
 have hkc := C.hkc
 clear C hV hsm
 obtain ⟨L, hL⟩ : ∃ L, ks.length = L := ⟨_, rfl⟩
 have HL := Lib.hid hL
 rw [hL] at q3 HQ7 HKEY h64 hkc
 clear hL
 clear hnext hK hout
 obtain ⟨Q, hQ⟩ : ∃ Q, (bodyPost Tryz.prog Tryz.f44 (IntBelow out w)) = Q := ⟨_, rfl⟩
 have HQ := Lib.hid hQ
 rw [hQ]
 clear hQ
 unfold bdC26 Tryz.f44
 dsimp only
 by_cases h8 : k = 8
 · have hk8 : (k == 8) = true := by simpa using h8
   have HO8 := Lib.hid (show out = (if risingB ks = false then 3 else (if ats.all (asksB (if k = 10 then l ++ groupV ks else l)) = false then 16 else 0)) from HO.out.trans (by simp only [h8, true_and]))
   clear h8 HO
   go_wp2_with fail
   go_loopw [16] (fun iv wr => ∃ j : Nat, j ≤ L ∧ iv = .int .i64 (j : Int) ∧ Hid (Below V.heap.size V wr) ∧ Hid (∀ i, i < j → riseOk ks i = true)) (fun iv _ => L + 1 - (intOf iv).toNat)
   case atStart => exact ⟨0, by omega, rfl, Lib.hid (Below.refl _ _), Lib.hid (fun i hi => by omega)⟩
   case round =>
    obtain ⟨j, hj, rfl, HW, HA⟩ := hrel
    obtain ⟨q0, -, -, q3, -⟩ := HQ7.out wr HW.out
    by_cases hlt : j < L
    · obtain ⟨b, o, rfl, hall⟩ := HKEY.out wr HW.out j hlt
      have qk := hall j hlt
      have HALL := Lib.hid hall
      clear hall
      have e1 : (0 : Int) ≤ (j : Int) := by omega
      have e2 : (j : Int) < (L : Int) := by omega
      have e4 : IntKind.i64.wrap ((j : Int) + 1) = (j : Int) + 1 := by rw [IntKind.wrap_i64]; omega
      have e5 : (L : Int) ≤ (ck : Int) := by omega
      have HWR := Lib.hid (fun (v : World) => (show Calls Tryz.prog 23 #[.int .i64 (nth ks j)] v fun e w' => e = .returned (.int .i64 (wrap31 (nth ks j))) ∧ w' = v from (rwrap_any (nth ks j) v).mono fun e w' h => ⟨h.1, h.2.symm⟩))
      cases hin : inB (nth ks j) (-1073741824) 1073741823
      · have HF := Lib.hid (show out = 3 from HO8.out.trans (by rw [if_pos (risingB_false (i := j) (by rw [HL.out]; exact hlt) (by unfold riseOk; rw [hin]; rfl))]))
        have hne : (wrap31 (nth ks j) != nth ks j) = true := by simpa using wrap31_out hin
        clear hin
        generalize wrap31 (nth ks j) = z at *
        generalize nth ks j = kj at *
        go_wp2_with fail
        go_quiet ((go_at_call 23; exact Calls.quiet_of_same (HWR.out _)))
        go_wp2_with fail
        rw [← HQ.out]
        go_ret
        exact ⟨ret_int HF.out.symm, below_drewN (HB.out.trans (HW.out.mono HB.out.size)) _⟩
      · have hne : (wrap31 (nth ks j) != nth ks j) = false := by simpa using wrap31_in hin
        by_cases h0 : j = 0
        · have HA2 := Lib.hid (show ∀ i, i < j + 1 → riseOk ks i = true from fun i hi => by
           have hi0 : i = 0 := by omega
           rw [h0] at hin
           rw [hi0]
           unfold riseOk; rw [hin]; rfl)
          have e6 : decide ((0 : Int) < (j : Int)) = false := by simp only [decide_eq_false_iff_not]; omega
          have e6n : decide (0 < j) = false := by simp only [decide_eq_false_iff_not]; omega
          have H0 := Lib.hid h0
          clear h0 hin
          generalize wrap31 (nth ks j) = z at *
          generalize nth ks j = kj at *
          go_wp2_with fail
          go_quiet ((go_at_call 23; exact Calls.quiet_of_same (HWR.out _)))
          go_wp2_with fail
          go_roundw
          case rel => exact ⟨j + 1, by omega, by go_num, Lib.hid (below_drewN HW.out _), HA2⟩
          case measure => simp [intOf]; omega
        · obtain ⟨p, rfl⟩ : ∃ p, j = p + 1 := ⟨j - 1, by omega⟩
          have qq := HALL.out p (by omega)
          have e6 : decide ((0 : Int) < ((p + 1 : Nat) : Int)) = true := by simp only [decide_eq_true_eq]; omega
          have e7 : IntKind.i64.wrap (((p + 1 : Nat) : Int) - 1) = (p : Int) := by rw [IntKind.wrap_i64]; omega
          have e8 : (0 : Int) ≤ (p : Int) := by omega
          have e9 : (p : Int) < (L : Int) := by omega
          by_cases hge : nth ks (p + 1) ≤ nth ks p
          · have HF := Lib.hid (show out = 3 from HO8.out.trans (by rw [if_pos (risingB_false (i := p + 1) (by rw [HL.out]; exact hlt) (by
             unfold riseOk; rw [hin]; simp; omega))]))
            have e10 : decide (nth ks (p + 1) ≤ nth ks p) = true := by simpa using hge
            clear hin hge
            generalize wrap31 (nth ks (p + 1)) = z at *
            generalize nth ks (p + 1) = kj at *
            generalize nth ks p = kp at *
            obtain ⟨J, hJ⟩ : ∃ J : Int, ((p + 1 : Nat) : Int) = J := ⟨_, rfl⟩
            have hJn : J.toNat = p + 1 := by omega
            rw [hJ] at e1 e2 e4 e6 e7 ⊢
            have qk' : wr.cell? ⟨b, o + J.toNat, none⟩ = some (.int .i64 kj) := by rw [hJn]; exact qk
            clear hJ
            go_wp2_with fail
            go_quiet ((go_at_call 23; exact Calls.quiet_of_same (HWR.out _)))
            go_wp2_with fail
            rw [← HQ.out]
            go_ret
            exact ⟨ret_int HF.out.symm, below_drewN (HB.out.trans (HW.out.mono HB.out.size)) _⟩
          · have HA2 := Lib.hid (show ∀ i, i < p + 1 + 1 → riseOk ks i = true from fun i hi => by
             by_cases hij : i = p + 1
             · subst hij
               unfold riseOk; rw [hin]; simp; omega
             · exact HA.out i (by omega))
            have e10 : decide (nth ks (p + 1) ≤ nth ks p) = false := by simpa using hge
            clear hin hge
            generalize wrap31 (nth ks (p + 1)) = z at *
            generalize nth ks (p + 1) = kj at *
            generalize nth ks p = kp at *
            obtain ⟨J, hJ⟩ : ∃ J : Int, ((p + 1 : Nat) : Int) = J := ⟨_, rfl⟩
            have hJn : J.toNat = p + 1 := by omega
            rw [hJ] at e1 e2 e4 e6 e7 ⊢
            have qk' : wr.cell? ⟨b, o + J.toNat, none⟩ = some (.int .i64 kj) := by rw [hJn]; exact qk
            have HJ := Lib.hid hJ
            clear hJ
            go_wp2_with fail
            go_quiet ((go_at_call 23; exact Calls.quiet_of_same (HWR.out _)))
            go_wp2_with fail
            go_roundw
            case rel => exact ⟨p + 1 + 1, by omega, by rw [← HJ.out]; go_num, Lib.hid (below_drewN HW.out _), HA2⟩
            case measure => have := HJ.out; simp [intOf]; omega
    · have e2 : ¬ (j : Int) < (L : Int) := by omega
      have HF := Lib.hid (show out = (if ats.all (asksB (if k = 10 then l ++ groupV ks else l)) = false then 16 else 0) from HO8.out.trans (by rw [if_neg (by rw [risingB_true (fun i hi => HA.out i (by rw [HL.out] at hi; omega))]; decide)]))
      go_wp2_with fail
      exact HK.out _ HW.out HF.out _ _ _ _ _ _ _ _ _ _ _ _ _ _ _ _ _ _ _ _ _ _ _ _ _ _ _ _ _ _ _ _ _ _ _ _ _ _ _ _ _ _ _ _ _ _ _ _ _ _ _ _ _ _ _ _ _ _ _ _ _ _ _ _ _ _ _ _ _ _ _ _ _ _ _ _ _ _ _ _ _ _ _ _ _ _ _ _ _ _ _ _ _ _ _ _ _ _ _ _ _ _ _ _ _ _ _ _ _ _ _ _ _ _ _ _ _ _ _ _ _ _ _ _ _ _ _ _ _ _ _ _ _ _ _ _ _ _ _ _ _ _ _ _ _ _ _ _ _ _ _ _ _ _ _ _ _ _ _ _ _ _ _ _ _ _ _ _ _ _ _ _ _ _ _ _ _ _ _ _ _ _ _ _ _ _ _ _ _ _ _ _ _ _ _ _ _ _ _ _ _ _ _ _ _ _ _ _ _ _ _ _ _ _ _ _ _ _ _ _ _ _ _ _ _ _ _ _ _ _ _ _ _ _
 · have hk8 : (k == 8) = false := by simpa using h8
   have HF := Lib.hid (show out = (if ats.all (asksB (if k = 10 then l ++ groupV ks else l)) = false then 16 else 0) from HO.out.trans (by rw [if_neg (fun h => h8 h.1)]))
   clear h8 HO
   cases hL0 : decide ((0 : Int) < (L : Int))
   · go_wp2_with fail
     go_loopw [16] (fun iv wr => iv = .int .i64 0 ∧ V = wr) (fun iv _ => 0)
     case atStart => exact ⟨rfl, rfl⟩
     case round =>
      obtain ⟨rfl, rfl⟩ := hrel
      go_wp2_with fail
      all_goals exact HK.out _ (Below.refl _ _) HF.out _ _ _ _ _ _ _ _ _ _ _ _ _ _ _ _ _ _ _ _ _ _ _ _ _ _ _ _ _ _ _ _ _ _ _ _ _ _ _ _ _ _ _ _ _ _ _ _ _ _ _ _ _ _ _ _ _ _ _ _ _ _ _ _ _ _ _ _ _ _ _ _ _ _ _ _ _ _ _ _ _ _ _ _ _ _ _ _ _ _ _ _ _ _ _ _ _ _ _ _ _ _ _ _ _ _ _ _ _ _ _ _ _ _ _ _ _ _ _ _ _ _ _ _ _ _ _ _ _ _ _ _ _ _ _ _ _ _ _ _ _ _ _ _ _ _ _ _ _ _ _ _ _ _ _ _ _ _ _ _ _ _ _ _ _ _ _ _ _ _ _ _ _ _ _ _ _ _ _ _ _ _ _ _ _ _ _ _ _ _ _ _ _ _ _ _ _ _ _ _ _ _ _ _ _ _ _ _ _ _ _ _ _ _ _ _ _ _ _ _ _ _ _ _ _ _ _ _ _ _ _ _ _ _
   · go_wp2_with fail
     go_loopw [16] (fun iv wr => iv = .int .i64 0 ∧ V = wr) (fun iv _ => 0)
     case atStart => exact ⟨rfl, rfl⟩
     case round =>
      obtain ⟨rfl, rfl⟩ := hrel
      go_wp2_with fail
      all_goals exact HK.out _ (Below.refl _ _) HF.out _ _ _ _ _ _ _ _ _ _ _ _ _ _ _ _ _ _ _ _ _ _ _ _ _ _ _ _ _ _ _ _ _ _ _ _ _ _ _ _ _ _ _ _ _ _ _ _ _ _ _ _ _ _ _ _ _ _ _ _ _ _ _ _ _ _ _ _ _ _ _ _ _ _ _ _ _ _ _ _ _ _ _ _ _ _ _ _ _ _ _ _ _ _ _ _ _ _ _ _ _ _ _ _ _ _ _ _ _ _ _ _ _ _ _ _ _ _ _ _ _ _ _ _ _ _ _ _ _ _ _ _ _ _ _ _ _ _ _ _ _ _ _ _ _ _ _ _ _ _ _ _ _ _ _ _ _ _ _ _ _ _ _ _ _ _ _ _ _ _ _ _ _ _ _ _ _ _ _ _ _ _ _ _ _ _ _ _ _ _ _ _ _ _ _ _ _ _ _ _ _ _ _ _ _ _ _ _ _ _ _ _ _ _ _ _ _ _ _ _ _ _ _ _ _ _ _ _ _ _ _ _ _ _
theorem bd_T21 (C : BCtx w W1 X3 X7 x k n Aa Ak Al A2 ats ks ca ck nb cb c2 l) (hV : Below W1.heap.size W1 V) (hnf : nf ≤ 1000000) (hsm : (l.length + ks.length) * 8 ≤ 140737488351232) (hout : out = (if k = 10 ∧ funsB nf ks = false then 2 else (if k = 8 ∧ risingB ks = false then 3 else (if ats.all (asksB (if k = 10 then l ++ groupV ks else l)) = false then 16 else 0)))) (u0 u4 u5 u6 u8 u9 u10 u11 u12 u13 u14 u15 u16 u17 u18 u19 u20 u21 u22 u23 u24 u25 u26 u27 u28 u29 u30 u31 u32 u33 u34 u35 u36 u37 u38 u39 u40 u41 u42 u43 u44 u45 u46 u47 u48 u49 u50 u51 u52 u53 u54 u55 u56 u57 u58 u59 u60 u61 u62 u63 u64 u65 u66 u67 u68 u69 u70 u71 u72 u73 u74 u75 u76 u77 u78 u79 u80 u81 u82 u83 u84 u85 u86 u87 u88 u89 u90 u91 u92 u93 u94 u95 u96 u97 u98 u99 u100 u101 u102 u103 u104 u105 u106 u107 u108 u109 u110 u111 u112 u113 u114 u115 u116 u117 u118 u119 u120 u121 u122 u123 u124 u125 u126 u127 u128 u129 u130 u131 u132 u133 u134 u135 u136 u137 u138 u139 u140 u141 u142 u143 u144 u145 u146 u147 u148 u149 u150 u151 u152 u153 u154 u155 u156 u157 u158 u159 u160 u161 u162 u163 u164 u165 u166 u167 u168 u169 u170 u171 u172 u173 u174 u175 u176 u177 u178 u179 u180 u181 u182 u183 u184 u185 u186 u187 u188 u189 u190 u191 u192 u193 u194 u195 u196 u197 u198 u199 u200 u201 u202 u203 u204 u205 u206 u207 u208 u209 u210 u211 u212 u213 u214 u215 u216 u217 u218 u219 u220 u221 u222 u223 u224 u225 u226 u227 u228 u229 u230 u231 u232 u233 u234 u235 u236 : Value) :
 bdT21.wp Tryz.prog (bodyPost Tryz.prog Tryz.f44 (IntBelow out w)) { tmps := #[u0, .int .i64 (nf : Int), .slice A2 l.length c2, .pointer (some ⟨X3, 0, none⟩), u4, u5, u6, .pointer (some ⟨X7, 0, none⟩), u8, u9, u10, u11, u12, u13, u14, u15, u16, u17, u18, u19, u20, u21, u22, u23, u24, u25, u26, u27, u28, u29, u30, u31, u32, u33, u34, u35, u36, u37, u38, u39, u40, u41, u42, u43, u44, u45, u46, u47, u48, u49, u50, u51, u52, u53, u54, u55, u56, u57, u58, u59, u60, u61, u62, u63, u64, u65, u66, u67, u68, u69, u70, u71, u72, u73, u74, u75, u76, u77, u78, u79, u80, u81, u82, u83, u84, u85, u86, u87, u88, u89, u90, u91, u92, u93, u94, u95, u96, u97, u98, u99, u100, u101, u102, u103, u104, u105, u106, u107, u108, u109, u110, u111, u112, u113, u114, u115, u116, u117, u118, u119, u120, u121, u122, u123, u124, u125, u126, u127, u128, u129, u130, u131, u132, u133, u134, u135, u136, u137, u138, u139, u140, u141, u142, u143, u144, u145, u146, u147, u148, u149, u150, u151, u152, u153, u154, u155, u156, u157, u158, u159, u160, u161, u162, u163, u164, u165, u166, u167, u168, u169, u170, u171, u172, u173, u174, u175, u176, u177, u178, u179, u180, u181, u182, u183, u184, u185, u186, u187, u188, u189, u190, u191, u192, u193, u194, u195, u196, u197, u198, u199, u200, u201, u202, u203, u204, u205, u206, u207, u208, u209, u210, u211, u212, u213, u214, u215, u216, u217, u218, u219, u220, u221, u222, u223, u224, u225, u226, u227, u228, u229, u230, u231, u232, u233, u234, u235, u236], defers := [] } V := by
 have hnext := fun (V2 : World) (h2 : Below V.heap.size V V2) (ho : out = (if k = 8 ∧ risingB ks = false then 3 else (if ats.all (asksB (if k = 10 then l ++ groupV ks else l)) = false then 16 else 0))) (y0 y1 y4 y5 y6 y8 y9 y10 y11 y12 y13 y14 y15 y16 y17 y18 y19 y20 y21 y22 y23 y24 y25 y26 y27 y28 y29 y30 y31 y32 y33 y34 y35 y36 y37 y38 y39 y40 y41 y42 y43 y44 y45 y46 y47 y48 y49 y50 y51 y52 y53 y54 y55 y56 y57 y58 y59 y60 y61 y62 y63 y64 y65 y66 y67 y68 y69 y70 y71 y72 y73 y74 y75 y76 y77 y78 y79 y80 y81 y82 y83 y84 y85 y86 y87 y88 y89 y90 y91 y92 y93 y94 y95 y96 y97 y98 y99 y100 y101 y102 y103 y104 y105 y106 y107 y108 y109 y110 y111 y112 y113 y114 y115 y116 y117 y118 y119 y120 y121 y122 y123 y124 y125 y126 y127 y128 y129 y130 y131 y132 y133 y134 y135 y136 y137 y138 y139 y140 y141 y142 y143 y144 y145 y146 y147 y148 y149 y150 y151 y152 y153 y154 y155 y156 y157 y158 y159 y160 y161 y162 y163 y164 y165 y166 y167 y168 y169 y170 y171 y172 y173 y174 y175 y176 y177 y178 y179 y180 y181 y182 y183 y184 y185 y186 y187 y188 y189 y190 y191 y192 y193 y194 y195 y196 y197 y198 y199 y200 y201 y202 y203 y204 y205 y206 y207 y208 y209 y210 y211 y212 y213 y214 y215 y216 y217 y218 y219 y220 y221 y222 y223 y224 y225 y226 y227 y228 y229 y230 y231 y232 y233 y234 y235 y236 : Value) => bd_T26 C (hV.trans (h2.mono hV.size)) hsm ho y0 y1 y4 y5 y6 y8 y9 y10 y11 y12 y13 y14 y15 y16 y17 y18 y19 y20 y21 y22 y23 y24 y25 y26 y27 y28 y29 y30 y31 y32 y33 y34 y35 y36 y37 y38 y39 y40 y41 y42 y43 y44 y45 y46 y47 y48 y49 y50 y51 y52 y53 y54 y55 y56 y57 y58 y59 y60 y61 y62 y63 y64 y65 y66 y67 y68 y69 y70 y71 y72 y73 y74 y75 y76 y77 y78 y79 y80 y81 y82 y83 y84 y85 y86 y87 y88 y89 y90 y91 y92 y93 y94 y95 y96 y97 y98 y99 y100 y101 y102 y103 y104 y105 y106 y107 y108 y109 y110 y111 y112 y113 y114 y115 y116 y117 y118 y119 y120 y121 y122 y123 y124 y125 y126 y127 y128 y129 y130 y131 y132 y133 y134 y135 y136 y137 y138 y139 y140 y141 y142 y143 y144 y145 y146 y147 y148 y149 y150 y151 y152 y153 y154 y155 y156 y157 y158 y159 y160 y161 y162 y163 y164 y165 y166 y167 y168 y169 y170 y171 y172 y173 y174 y175 y176 y177 y178 y179 y180 y181 y182 y183 y184 y185 y186 y187 y188 y189 y190 y191 y192 y193 y194 y195 y196 y197 y198 y199 y200 y201 y202 y203 y204 y205 y206 y207 y208 y209 y210 y211 y212 y213 y214 y215 y216 y217 y218 y219 y220 y221 y222 y223 y224 y225 y226 y227 y228 y229 y230 y231 y232 y233 y234 y235 y236
 suffices hs : ∀ K : Act → World → Prop, (∀ a w2, bdT26.wp Tryz.prog (bodyPost Tryz.prog Tryz.f44 (IntBelow out w)) a w2 → K a w2) → bdC21.wp Tryz.prog (Exit.then K (bodyPost Tryz.prog Tryz.f44 (IntBelow out w))) { tmps := #[u0, .int .i64 (nf : Int), .slice A2 l.length c2, .pointer (some ⟨X3, 0, none⟩), u4, u5, u6, .pointer (some ⟨X7, 0, none⟩), u8, u9, u10, u11, u12, u13, u14, u15, u16, u17, u18, u19, u20, u21, u22, u23, u24, u25, u26, u27, u28, u29, u30, u31, u32, u33, u34, u35, u36, u37, u38, u39, u40, u41, u42, u43, u44, u45, u46, u47, u48, u49, u50, u51, u52, u53, u54, u55, u56, u57, u58, u59, u60, u61, u62, u63, u64, u65, u66, u67, u68, u69, u70, u71, u72, u73, u74, u75, u76, u77, u78, u79, u80, u81, u82, u83, u84, u85, u86, u87, u88, u89, u90, u91, u92, u93, u94, u95, u96, u97, u98, u99, u100, u101, u102, u103, u104, u105, u106, u107, u108, u109, u110, u111, u112, u113, u114, u115, u116, u117, u118, u119, u120, u121, u122, u123, u124, u125, u126, u127, u128, u129, u130, u131, u132, u133, u134, u135, u136, u137, u138, u139, u140, u141, u142, u143, u144, u145, u146, u147, u148, u149, u150, u151, u152, u153, u154, u155, u156, u157, u158, u159, u160, u161, u162, u163, u164, u165, u166, u167, u168, u169, u170, u171, u172, u173, u174, u175, u176, u177, u178, u179, u180, u181, u182, u183, u184, u185, u186, u187, u188, u189, u190, u191, u192, u193, u194, u195, u196, u197, u198, u199, u200, u201, u202, u203, u204, u205, u206, u207, u208, u209, u210, u211, u212, u213, u214, u215, u216, u217, u218, u219, u220, u221, u222, u223, u224, u225, u226, u227, u228, u229, u230, u231, u232, u233, u234, u235, u236], defers := [] } V from wp_seq (hs _ (fun _ _ h => h))
 intro K hK
 have HK := Lib.hid (fun (V2 : World) (h2 : Below V.heap.size V V2) (ho : out = (if k = 8 ∧ risingB ks = false then 3 else (if ats.all (asksB (if k = 10 then l ++ groupV ks else l)) = false then 16 else 0))) (y0 y1 y4 y5 y6 y8 y9 y10 y11 y12 y13 y14 y15 y16 y17 y18 y19 y20 y21 y22 y23 y24 y25 y26 y27 y28 y29 y30 y31 y32 y33 y34 y35 y36 y37 y38 y39 y40 y41 y42 y43 y44 y45 y46 y47 y48 y49 y50 y51 y52 y53 y54 y55 y56 y57 y58 y59 y60 y61 y62 y63 y64 y65 y66 y67 y68 y69 y70 y71 y72 y73 y74 y75 y76 y77 y78 y79 y80 y81 y82 y83 y84 y85 y86 y87 y88 y89 y90 y91 y92 y93 y94 y95 y96 y97 y98 y99 y100 y101 y102 y103 y104 y105 y106 y107 y108 y109 y110 y111 y112 y113 y114 y115 y116 y117 y118 y119 y120 y121 y122 y123 y124 y125 y126 y127 y128 y129 y130 y131 y132 y133 y134 y135 y136 y137 y138 y139 y140 y141 y142 y143 y144 y145 y146 y147 y148 y149 y150 y151 y152 y153 y154 y155 y156 y157 y158 y159 y160 y161 y162 y163 y164 y165 y166 y167 y168 y169 y170 y171 y172 y173 y174 y175 y176 y177 y178 y179 y180 y181 y182 y183 y184 y185 y186 y187 y188 y189 y190 y191 y192 y193 y194 y195 y196 y197 y198 y199 y200 y201 y202 y203 y204 y205 y206 y207 y208 y209 y210 y211 y212 y213 y214 y215 y216 y217 y218 y219 y220 y221 y222 y223 y224 y225 y226 y227 y228 y229 y230 y231 y232 y233 y234 y235 y236 : Value) => hK _ _ (hnext V2 h2 ho y0 y1 y4 y5 y6 y8 y9 y10 y11 y12 y13 y14 y15 y16 y17 y18 y19 y20 y21 y22 y23 y24 y25 y26 y27 y28 y29 y30 y31 y32 y33 y34 y35 y36 y37 y38 y39 y40 y41 y42 y43 y44 y45 y46 y47 y48 y49 y50 y51 y52 y53 y54 y55 y56 y57 y58 y59 y60 y61 y62 y63 y64 y65 y66 y67 y68 y69 y70 y71 y72 y73 y74 y75 y76 y77 y78 y79 y80 y81 y82 y83 y84 y85 y86 y87 y88 y89 y90 y91 y92 y93 y94 y95 y96 y97 y98 y99 y100 y101 y102 y103 y104 y105 y106 y107 y108 y109 y110 y111 y112 y113 y114 y115 y116 y117 y118 y119 y120 y121 y122 y123 y124 y125 y126 y127 y128 y129 y130 y131 y132 y133 y134 y135 y136 y137 y138 y139 y140 y141 y142 y143 y144 y145 y146 y147 y148 y149 y150 y151 y152 y153 y154 y155 y156 y157 y158 y159 y160 y161 y162 y163 y164 y165 y166 y167 y168 y169 y170 y171 y172 y173 y174 y175 y176 y177 y178 y179 y180 y181 y182 y183 y184 y185 y186 y187 y188 y189 y190 y191 y192 y193 y194 y195 y196 y197 y198 y199 y200 y201 y202 y203 y204 y205 y206 y207 y208 y209 y210 y211 y212 y213 y214 y215 y216 y217 y218 y219 y220 y221 y222 y223 y224 y225 y226 y227 y228 y229 y230 y231 y232 y233 y234 y235 y236))
 have HO := Lib.hid hout
 have HB := Lib.hid (C.out_ hV)
 obtain ⟨q0, -, -, q3, -⟩ := C.cells7 hV
 have HKEY := Lib.hid (C.keys hV)
 have h64 := C.hk.1
 have hkc := C.hkc
 clear C hV hsm
 obtain ⟨L, hL⟩ : ∃ L, ks.length = L := ⟨_, rfl⟩
 have HL := Lib.hid hL
 rw [hL] at q3 HKEY h64 hkc
 clear hL
 have hw1 : IntKind.i64.wrap ((nf : Int) - 1) = (nf : Int) - 1 := by rw [IntKind.wrap_i64]; omega
 clear hnext hK hout
 obtain ⟨Q, hQ⟩ : ∃ Q, (bodyPost Tryz.prog Tryz.f44 (IntBelow out w)) = Q := ⟨_, rfl⟩
 have HQ := Lib.hid hQ
 rw [hQ]
 clear hQ
 unfold bdC21 Tryz.f44
 dsimp only
 by_cases h10 : k = 10
 · have hk10 : (k == 10) = true := by simpa using h10
   have HO8 := Lib.hid (show out = (if funsB nf ks = false then 2 else (if k = 8 ∧ risingB ks = false then 3 else (if ats.all (asksB (if k = 10 then l ++ groupV ks else l)) = false then 16 else 0))) from HO.out.trans (by simp only [h10, true_and]))
   have HG := Lib.hid (groupF_get' ks)
   have hl := groupF_len ks
   rw [HL.out] at HG hl
   have HGL := Lib.hid hl
   clear h10 HO
   go_wp2_with fail
   go_loopw [15] (fun iv wr => ∃ j : Nat, 3 * j ≤ L + 2 ∧ iv = .int .i64 (3 * (j : Int) + 1) ∧ V = wr ∧ Hid (((groupF ks).take j).all (fun f => inB f 0 ((nf : Int) - 1)) = true)) (fun iv _ => 3 * L + 9 - (intOf iv).toNat)
   case atStart => exact ⟨0, by omega, rfl, rfl, Lib.hid (by simp)⟩
   case round =>
    obtain ⟨j, hj, rfl, rfl, HA⟩ := hrel
    by_cases hlt : 3 * j + 1 < L
    · obtain ⟨b, o, rfl, hall⟩ := HKEY.out (3 * j + 1) hlt
      have qk := hall (3 * j + 1) hlt
      clear hall
      have e1 : (0 : Int) ≤ 3 * (j : Int) + 1 := by omega
      have e2 : 3 * (j : Int) + 1 < (L : Int) := by omega
      have e3 : (3 * (j : Int) + 1).toNat = 3 * j + 1 := by omega
      have e4 : IntKind.i64.wrap (3 * (j : Int) + 1 + 3) = 3 * (j : Int) + 1 + 3 := by rw [IntKind.wrap_i64]; omega
      have e5 : (L : Int) ≤ (ck : Int) := by omega
      have HGJ := Lib.hid (HG.out j hlt)
      have HIS := Lib.hid (is_any (nth ks (3 * j + 1)) 0 ((nf : Int) - 1) V)
      cases hin : inB (nth ks (3 * j + 1)) 0 ((nf : Int) - 1)
      · have HF := Lib.hid (show out = 2 from HO8.out.trans (by unfold funsB; rw [if_pos (all_false HGJ.out hin)]))
        rw [hin] at HIS
        clear hin
        generalize nth ks (3 * j + 1) = kj at *
        go_wp2_with (go_at_call 43; refine HIS.out.mono ?_; rintro en w' ⟨rfl, rfl⟩; dsimp only)
        rw [← HQ.out]
        go_ret
        exact ⟨ret_int HF.out.symm, HB.out⟩
      · have HA2 := Lib.hid (all_take_succ HGJ.out HA.out hin)
        rw [hin] at HIS
        clear hin
        generalize nth ks (3 * j + 1) = kj at *
        go_wp2_with (go_at_call 43; refine HIS.out.mono ?_; rintro en w' ⟨rfl, rfl⟩; dsimp only)
        go_roundw
        case rel => exact ⟨j + 1, by omega, by go_num, (by first | rfl | trivial), HA2⟩
        case measure => simp [intOf]; omega
    · have e2 : ¬ 3 * (j : Int) + 1 < (L : Int) := by omega
      have HF := Lib.hid (show out = (if k = 8 ∧ risingB ks = false then 3 else (if ats.all (asksB (if k = 10 then l ++ groupV ks else l)) = false then 16 else 0)) from HO8.out.trans (by
       have h := HA.out
       rw [List.take_of_length_le (by rw [HGL.out]; omega)] at h
       unfold funsB
       rw [if_neg (by rw [h]; decide)]))
      go_wp2_with fail
      exact HK.out _ (Below.refl _ _) HF.out _ _ _ _ _ _ _ _ _ _ _ _ _ _ _ _ _ _ _ _ _ _ _ _ _ _ _ _ _ _ _ _ _ _ _ _ _ _ _ _ _ _ _ _ _ _ _ _ _ _ _ _ _ _ _ _ _ _ _ _ _ _ _ _ _ _ _ _ _ _ _ _ _ _ _ _ _ _ _ _ _ _ _ _ _ _ _ _ _ _ _ _ _ _ _ _ _ _ _ _ _ _ _ _ _ _ _ _ _ _ _ _ _ _ _ _ _ _ _ _ _ _ _ _ _ _ _ _ _ _ _ _ _ _ _ _ _ _ _ _ _ _ _ _ _ _ _ _ _ _ _ _ _ _ _ _ _ _ _ _ _ _ _ _ _ _ _ _ _ _ _ _ _ _ _ _ _ _ _ _ _ _ _ _ _ _ _ _ _ _ _ _ _ _ _ _ _ _ _ _ _ _ _ _ _ _ _ _ _ _ _ _ _ _ _ _ _ _ _ _ _ _ _ _ _ _ _ _ _ _ _ _ _ _
 · have hk10 : (k == 10) = false := by simpa using h10
   have HF := Lib.hid (show out = (if k = 8 ∧ risingB ks = false then 3 else (if ats.all (asksB (if k = 10 then l ++ groupV ks else l)) = false then 16 else 0)) from HO.out.trans (by rw [if_neg (fun h => h10 h.1)]))
   clear h10 HO
   cases hL0 : decide ((1 : Int) < (L : Int))
   · go_wp2_with fail
     go_loopw [15] (fun iv wr => iv = .int .i64 1 ∧ V = wr) (fun iv _ => 0)
     case atStart => exact ⟨rfl, rfl⟩
     case round =>
      obtain ⟨rfl, rfl⟩ := hrel
      go_wp2_with fail
      all_goals exact HK.out _ (Below.refl _ _) HF.out _ _ _ _ _ _ _ _ _ _ _ _ _ _ _ _ _ _ _ _ _ _ _ _ _ _ _ _ _ _ _ _ _ _ _ _ _ _ _ _ _ _ _ _ _ _ _ _ _ _ _ _ _ _ _ _ _ _ _ _ _ _ _ _ _ _ _ _ _ _ _ _ _ _ _ _ _ _ _ _ _ _ _ _ _ _ _ _ _ _ _ _ _ _ _ _ _ _ _ _ _ _ _ _ _ _ _ _ _ _ _ _ _ _ _ _ _ _ _ _ _ _ _ _ _ _ _ _ _ _ _ _ _ _ _ _ _ _ _ _ _ _ _ _ _ _ _ _ _ _ _ _ _ _ _ _ _ _ _ _ _ _ _ _ _ _ _ _ _ _ _ _ _ _ _ _ _ _ _ _ _ _ _ _ _ _ _ _ _ _ _ _ _ _ _ _ _ _ _ _ _ _ _ _ _ _ _ _ _ _ _ _ _ _ _ _ _ _ _ _ _ _ _ _ _ _ _ _ _ _ _ _ _ _
   · go_wp2_with fail
     go_loopw [15] (fun iv wr => iv = .int .i64 1 ∧ V = wr) (fun iv _ => 0)
     case atStart => exact ⟨rfl, rfl⟩
     case round =>
      obtain ⟨rfl, rfl⟩ := hrel
      go_wp2_with fail
      all_goals exact HK.out _ (Below.refl _ _) HF.out _ _ _ _ _ _ _ _ _ _ _ _ _ _ _ _ _ _ _ _ _ _ _ _ _ _ _ _ _ _ _ _ _ _ _ _ _ _ _ _ _ _ _ _ _ _ _ _ _ _ _ _ _ _ _ _ _ _ _ _ _ _ _ _ _ _ _ _ _ _ _ _ _ _ _ _ _ _ _ _ _ _ _ _ _ _ _ _ _ _ _ _ _ _ _ _ _ _ _ _ _ _ _ _ _ _ _ _ _ _ _ _ _ _ _ _ _ _ _ _ _ _ _ _ _ _ _ _ _ _ _ _ _ _ _ _ _ _ _ _ _ _ _ _ _ _ _ _ _ _ _ _ _ _ _ _ _ _ _ _ _ _ _ _ _ _ _ _ _ _ _ _ _ _ _ _ _ _ _ _ _ _ _ _ _ _ _ _ _ _ _ _ _ _ _ _ _ _ _ _ _ _ _ _ _ _ _ _ _ _ _ _ _ _ _ _ _ _ _ _ _ _ _ _ _ _ _ _ _ _ _ _ _ _
theorem bd_T19 (C : BCtx w W1 X3 X7 x k n Aa Ak Al A2 ats ks ca ck nb cb c2 l) (hV : Below W1.heap.size W1 V) (hnf : nf ≤ 1000000) (hsm : (l.length + ks.length) * 8 ≤ 140737488351232) (hka : hasA k = true) (hout : out = (if countB x k n ats.length ks nb = false then 19 else (if k = 10 ∧ funsB nf ks = false then 2 else (if k = 8 ∧ risingB ks = false then 3 else (if ats.all (asksB (if k = 10 then l ++ groupV ks else l)) = false then 16 else 0))))) (u0 u4 u5 u6 u8 u9 u10 u11 u12 u13 u14 u15 u16 u17 u18 u19 u20 u21 u22 u23 u24 u25 u26 u27 u28 u29 u30 u31 u32 u33 u34 u35 u36 u37 u38 u39 u40 u41 u42 u43 u44 u45 u46 u47 u48 u49 u50 u51 u52 u53 u54 u55 u56 u57 u58 u59 u60 u61 u62 u63 u64 u65 u66 u67 u68 u69 u70 u71 u72 u73 u74 u75 u76 u77 u78 u79 u80 u81 u82 u83 u84 u85 u86 u87 u88 u89 u90 u91 u92 u93 u94 u95 u96 u97 u98 u99 u100 u101 u102 u103 u104 u105 u106 u107 u108 u109 u110 u111 u112 u113 u114 u115 u116 u117 u118 u119 u120 u121 u122 u123 u124 u125 u126 u127 u128 u129 u130 u131 u132 u133 u134 u135 u136 u137 u138 u139 u140 u141 u142 u143 u144 u145 u146 u147 u148 u149 u150 u151 u152 u153 u154 u155 u156 u157 u158 u159 u160 u161 u162 u163 u164 u165 u166 u167 u168 u169 u170 u171 u172 u173 u174 u175 u176 u177 u178 u179 u180 u181 u182 u183 u184 u185 u186 u187 u188 u189 u190 u191 u192 u193 u194 u195 u196 u197 u198 u199 u200 u201 u202 u203 u204 u205 u206 u207 u208 u209 u210 u211 u212 u213 u214 u215 u216 u217 u218 u219 u220 u221 u222 u223 u224 u225 u226 u227 u228 u229 u230 u231 u232 u233 u234 u235 u236 : Value) :
 bdT19.wp Tryz.prog (bodyPost Tryz.prog Tryz.f44 (IntBelow out w)) { tmps := #[u0, .int .i64 (nf : Int), .slice A2 l.length c2, .pointer (some ⟨X3, 0, none⟩), u4, u5, u6, .pointer (some ⟨X7, 0, none⟩), u8, u9, u10, u11, u12, u13, u14, u15, u16, u17, u18, u19, u20, u21, u22, u23, u24, u25, u26, u27, u28, u29, u30, u31, u32, u33, u34, u35, u36, u37, u38, u39, u40, u41, u42, u43, u44, u45, u46, u47, u48, u49, u50, u51, u52, u53, u54, u55, u56, u57, u58, u59, u60, u61, u62, u63, u64, u65, u66, u67, u68, u69, u70, u71, u72, u73, u74, u75, u76, u77, u78, u79, u80, u81, u82, u83, u84, u85, u86, u87, u88, u89, u90, u91, u92, u93, u94, u95, u96, u97, u98, u99, u100, u101, u102, u103, u104, u105, u106, u107, u108, u109, u110, u111, u112, u113, u114, u115, u116, u117, u118, u119, u120, u121, u122, u123, u124, u125, u126, u127, u128, u129, u130, u131, u132, u133, u134, u135, u136, u137, u138, u139, u140, u141, u142, u143, u144, u145, u146, u147, u148, u149, u150, u151, u152, u153, u154, u155, u156, u157, u158, u159, u160, u161, u162, u163, u164, u165, u166, u167, u168, u169, u170, u171, u172, u173, u174, u175, u176, u177, u178, u179, u180, u181, u182, u183, u184, u185, u186, u187, u188, u189, u190, u191, u192, u193, u194, u195, u196, u197, u198, u199, u200, u201, u202, u203, u204, u205, u206, u207, u208, u209, u210, u211, u212, u213, u214, u215, u216, u217, u218, u219, u220, u221, u222, u223, u224, u225, u226, u227, u228, u229, u230, u231, u232, u233, u234, u235, u236], defers := [] } V := by
 have hnext := fun (V2 : World) (h2 : Below V.heap.size V V2) (ho : out = (if k = 10 ∧ funsB nf ks = false then 2 else (if k = 8 ∧ risingB ks = false then 3 else (if ats.all (asksB (if k = 10 then l ++ groupV ks else l)) = false then 16 else 0)))) (y0 y4 y5 y6 y8 y9 y10 y11 y12 y13 y14 y15 y16 y17 y18 y19 y20 y21 y22 y23 y24 y25 y26 y27 y28 y29 y30 y31 y32 y33 y34 y35 y36 y37 y38 y39 y40 y41 y42 y43 y44 y45 y46 y47 y48 y49 y50 y51 y52 y53 y54 y55 y56 y57 y58 y59 y60 y61 y62 y63 y64 y65 y66 y67 y68 y69 y70 y71 y72 y73 y74 y75 y76 y77 y78 y79 y80 y81 y82 y83 y84 y85 y86 y87 y88 y89 y90 y91 y92 y93 y94 y95 y96 y97 y98 y99 y100 y101 y102 y103 y104 y105 y106 y107 y108 y109 y110 y111 y112 y113 y114 y115 y116 y117 y118 y119 y120 y121 y122 y123 y124 y125 y126 y127 y128 y129 y130 y131 y132 y133 y134 y135 y136 y137 y138 y139 y140 y141 y142 y143 y144 y145 y146 y147 y148 y149 y150 y151 y152 y153 y154 y155 y156 y157 y158 y159 y160 y161 y162 y163 y164 y165 y166 y167 y168 y169 y170 y171 y172 y173 y174 y175 y176 y177 y178 y179 y180 y181 y182 y183 y184 y185 y186 y187 y188 y189 y190 y191 y192 y193 y194 y195 y196 y197 y198 y199 y200 y201 y202 y203 y204 y205 y206 y207 y208 y209 y210 y211 y212 y213 y214 y215 y216 y217 y218 y219 y220 y221 y222 y223 y224 y225 y226 y227 y228 y229 y230 y231 y232 y233 y234 y235 y236 : Value) => bd_T21 C (hV.trans (h2.mono hV.size)) hnf hsm ho y0 y4 y5 y6 y8 y9 y10 y11 y12 y13 y14 y15 y16 y17 y18 y19 y20 y21 y22 y23 y24 y25 y26 y27 y28 y29 y30 y31 y32 y33 y34 y35 y36 y37 y38 y39 y40 y41 y42 y43 y44 y45 y46 y47 y48 y49 y50 y51 y52 y53 y54 y55 y56 y57 y58 y59 y60 y61 y62 y63 y64 y65 y66 y67 y68 y69 y70 y71 y72 y73 y74 y75 y76 y77 y78 y79 y80 y81 y82 y83 y84 y85 y86 y87 y88 y89 y90 y91 y92 y93 y94 y95 y96 y97 y98 y99 y100 y101 y102 y103 y104 y105 y106 y107 y108 y109 y110 y111 y112 y113 y114 y115 y116 y117 y118 y119 y120 y121 y122 y123 y124 y125 y126 y127 y128 y129 y130 y131 y132 y133 y134 y135 y136 y137 y138 y139 y140 y141 y142 y143 y144 y145 y146 y147 y148 y149 y150 y151 y152 y153 y154 y155 y156 y157 y158 y159 y160 y161 y162 y163 y164 y165 y166 y167 y168 y169 y170 y171 y172 y173 y174 y175 y176 y177 y178 y179 y180 y181 y182 y183 y184 y185 y186 y187 y188 y189 y190 y191 y192 y193 y194 y195 y196 y197 y198 y199 y200 y201 y202 y203 y204 y205 y206 y207 y208 y209 y210 y211 y212 y213 y214 y215 y216 y217 y218 y219 y220 y221 y222 y223 y224 y225 y226 y227 y228 y229 y230 y231 y232 y233 y234 y235 y236
 suffices hs : ∀ K : Act → World → Prop, (∀ a w2, bdT21.wp Tryz.prog (bodyPost Tryz.prog Tryz.f44 (IntBelow out w)) a w2 → K a w2) → bdC19.wp Tryz.prog (Exit.then K (bodyPost Tryz.prog Tryz.f44 (IntBelow out w))) { tmps := #[u0, .int .i64 (nf : Int), .slice A2 l.length c2, .pointer (some ⟨X3, 0, none⟩), u4, u5, u6, .pointer (some ⟨X7, 0, none⟩), u8, u9, u10, u11, u12, u13, u14, u15, u16, u17, u18, u19, u20, u21, u22, u23, u24, u25, u26, u27, u28, u29, u30, u31, u32, u33, u34, u35, u36, u37, u38, u39, u40, u41, u42, u43, u44, u45, u46, u47, u48, u49, u50, u51, u52, u53, u54, u55, u56, u57, u58, u59, u60, u61, u62, u63, u64, u65, u66, u67, u68, u69, u70, u71, u72, u73, u74, u75, u76, u77, u78, u79, u80, u81, u82, u83, u84, u85, u86, u87, u88, u89, u90, u91, u92, u93, u94, u95, u96, u97, u98, u99, u100, u101, u102, u103, u104, u105, u106, u107, u108, u109, u110, u111, u112, u113, u114, u115, u116, u117, u118, u119, u120, u121, u122, u123, u124, u125, u126, u127, u128, u129, u130, u131, u132, u133, u134, u135, u136, u137, u138, u139, u140, u141, u142, u143, u144, u145, u146, u147, u148, u149, u150, u151, u152, u153, u154, u155, u156, u157, u158, u159, u160, u161, u162, u163, u164, u165, u166, u167, u168, u169, u170, u171, u172, u173, u174, u175, u176, u177, u178, u179, u180, u181, u182, u183, u184, u185, u186, u187, u188, u189, u190, u191, u192, u193, u194, u195, u196, u197, u198, u199, u200, u201, u202, u203, u204, u205, u206, u207, u208, u209, u210, u211, u212, u213, u214, u215, u216, u217, u218, u219, u220, u221, u222, u223, u224, u225, u226, u227, u228, u229, u230, u231, u232, u233, u234, u235, u236], defers := [] } V from wp_seq (hs _ (fun _ _ h => h))
 intro K hK
 have HK := Lib.hid (fun (V2 : World) (h2 : Below V.heap.size V V2) (ho : out = (if k = 10 ∧ funsB nf ks = false then 2 else (if k = 8 ∧ risingB ks = false then 3 else (if ats.all (asksB (if k = 10 then l ++ groupV ks else l)) = false then 16 else 0)))) (y0 y4 y5 y6 y8 y9 y10 y11 y12 y13 y14 y15 y16 y17 y18 y19 y20 y21 y22 y23 y24 y25 y26 y27 y28 y29 y30 y31 y32 y33 y34 y35 y36 y37 y38 y39 y40 y41 y42 y43 y44 y45 y46 y47 y48 y49 y50 y51 y52 y53 y54 y55 y56 y57 y58 y59 y60 y61 y62 y63 y64 y65 y66 y67 y68 y69 y70 y71 y72 y73 y74 y75 y76 y77 y78 y79 y80 y81 y82 y83 y84 y85 y86 y87 y88 y89 y90 y91 y92 y93 y94 y95 y96 y97 y98 y99 y100 y101 y102 y103 y104 y105 y106 y107 y108 y109 y110 y111 y112 y113 y114 y115 y116 y117 y118 y119 y120 y121 y122 y123 y124 y125 y126 y127 y128 y129 y130 y131 y132 y133 y134 y135 y136 y137 y138 y139 y140 y141 y142 y143 y144 y145 y146 y147 y148 y149 y150 y151 y152 y153 y154 y155 y156 y157 y158 y159 y160 y161 y162 y163 y164 y165 y166 y167 y168 y169 y170 y171 y172 y173 y174 y175 y176 y177 y178 y179 y180 y181 y182 y183 y184 y185 y186 y187 y188 y189 y190 y191 y192 y193 y194 y195 y196 y197 y198 y199 y200 y201 y202 y203 y204 y205 y206 y207 y208 y209 y210 y211 y212 y213 y214 y215 y216 y217 y218 y219 y220 y221 y222 y223 y224 y225 y226 y227 y228 y229 y230 y231 y232 y233 y234 y235 y236 : Value) => hK _ _ (hnext V2 h2 ho y0 y4 y5 y6 y8 y9 y10 y11 y12 y13 y14 y15 y16 y17 y18 y19 y20 y21 y22 y23 y24 y25 y26 y27 y28 y29 y30 y31 y32 y33 y34 y35 y36 y37 y38 y39 y40 y41 y42 y43 y44 y45 y46 y47 y48 y49 y50 y51 y52 y53 y54 y55 y56 y57 y58 y59 y60 y61 y62 y63 y64 y65 y66 y67 y68 y69 y70 y71 y72 y73 y74 y75 y76 y77 y78 y79 y80 y81 y82 y83 y84 y85 y86 y87 y88 y89 y90 y91 y92 y93 y94 y95 y96 y97 y98 y99 y100 y101 y102 y103 y104 y105 y106 y107 y108 y109 y110 y111 y112 y113 y114 y115 y116 y117 y118 y119 y120 y121 y122 y123 y124 y125 y126 y127 y128 y129 y130 y131 y132 y133 y134 y135 y136 y137 y138 y139 y140 y141 y142 y143 y144 y145 y146 y147 y148 y149 y150 y151 y152 y153 y154 y155 y156 y157 y158 y159 y160 y161 y162 y163 y164 y165 y166 y167 y168 y169 y170 y171 y172 y173 y174 y175 y176 y177 y178 y179 y180 y181 y182 y183 y184 y185 y186 y187 y188 y189 y190 y191 y192 y193 y194 y195 y196 y197 y198 y199 y200 y201 y202 y203 y204 y205 y206 y207 y208 y209 y210 y211 y212 y213 y214 y215 y216 y217 y218 y219 y220 y221 y222 y223 y224 y225 y226 y227 y228 y229 y230 y231 y232 y233 y234 y235 y236))
 have HO := Lib.hid hout
 have HB := Lib.hid (C.out_ hV)
 obtain ⟨p0, p1, p2, p3, p4, p5⟩ := C.cells3 hV
 have HC := Lib.hid (rcount_any x n Aa Ak Al ats.length ca ck nb cb ks V k hka ((C.hk.below hV).mono hV.size) C.hkc)
 clear C hV hsm hka
 clear hnext hK hout
 obtain ⟨Q, hQ⟩ : ∃ Q, (bodyPost Tryz.prog Tryz.f44 (IntBelow out w)) = Q := ⟨_, rfl⟩
 have HQ := Lib.hid hQ
 rw [hQ]
 clear hQ
 unfold bdC19 Tryz.f44
 dsimp only
 cases hc : countB x k n ats.length ks nb
 · have HF := Lib.hid (show out = 19 from HO.out.trans (by rw [if_pos hc]))
   rw [hc] at HC
   clear HO hc
   go_wp2_with (go_at_call 67; refine HC.out.mono ?_; rintro en w2 ⟨rfl, hb2⟩; dsimp only)
   rw [← HQ.out]
   go_ret
   exact ⟨ret_int HF.out.symm, HB.out.trans (hb2.mono HB.out.size)⟩
 · have HF := Lib.hid (show out = (if k = 10 ∧ funsB nf ks = false then 2 else (if k = 8 ∧ risingB ks = false then 3 else (if ats.all (asksB (if k = 10 then l ++ groupV ks else l)) = false then 16 else 0))) from HO.out.trans (by rw [if_neg (by rw [hc]; decide)]))
   rw [hc] at HC
   clear HO hc
   go_wp2_with (go_at_call 67; refine HC.out.mono ?_; rintro en w2 ⟨rfl, hb2⟩; dsimp only)
   exact HK.out _ hb2 HF.out _ _ _ _ _ _ _ _ _ _ _ _ _ _ _ _ _ _ _ _ _ _ _ _ _ _ _ _ _ _ _ _ _ _ _ _ _ _ _ _ _ _ _ _ _ _ _ _ _ _ _ _ _ _ _ _ _ _ _ _ _ _ _ _ _ _ _ _ _ _ _ _ _ _ _ _ _ _ _ _ _ _ _ _ _ _ _ _ _ _ _ _ _ _ _ _ _ _ _ _ _ _ _ _ _ _ _ _ _ _ _ _ _ _ _ _ _ _ _ _ _ _ _ _ _ _ _ _ _ _ _ _ _ _ _ _ _ _ _ _ _ _ _ _ _ _ _ _ _ _ _ _ _ _ _ _ _ _ _ _ _ _ _ _ _ _ _ _ _ _ _ _ _ _ _ _ _ _ _ _ _ _ _ _ _ _ _ _ _ _ _ _ _ _ _ _ _ _ _ _ _ _ _ _ _ _ _ _ _ _ _ _ _ _ _ _ _ _ _ _ _ _ _ _ _ _ _ _ _ _ _ _ _
theorem bd_T17 (C : BCtx w W1 X3 X7 x k n Aa Ak Al A2 ats ks ca ck nb cb c2 l) (hV : Below W1.heap.size W1 V) (hnf : nf ≤ 1000000) (hsm : (l.length + ks.length) * 8 ≤ 140737488351232) (hka : hasA k = true) (hout : out = (if k = 2 ∧ inB n 1 16 = false then 28 else (if countB x k n ats.length ks nb = false then 19 else (if k = 10 ∧ funsB nf ks = false then 2 else (if k = 8 ∧ risingB ks = false then 3 else (if ats.all (asksB (if k = 10 then l ++ groupV ks else l)) = false then 16 else 0)))))) (u0 u4 u5 u6 u8 u9 u10 u11 u12 u13 u14 u15 u16 u17 u18 u19 u20 u21 u22 u23 u24 u25 u26 u27 u28 u29 u30 u31 u32 u33 u34 u35 u36 u37 u38 u39 u40 u41 u42 u43 u44 u45 u46 u47 u48 u49 u50 u51 u52 u53 u54 u55 u56 u57 u58 u59 u60 u61 u62 u63 u64 u65 u66 u67 u68 u69 u70 u71 u72 u73 u74 u75 u76 u77 u78 u79 u80 u81 u82 u83 u84 u85 u86 u87 u88 u89 u90 u91 u92 u93 u94 u95 u96 u97 u98 u99 u100 u101 u102 u103 u104 u105 u106 u107 u108 u109 u110 u111 u112 u113 u114 u115 u116 u117 u118 u119 u120 u121 u122 u123 u124 u125 u126 u127 u128 u129 u130 u131 u132 u133 u134 u135 u136 u137 u138 u139 u140 u141 u142 u143 u144 u145 u146 u147 u148 u149 u150 u151 u152 u153 u154 u155 u156 u157 u158 u159 u160 u161 u162 u163 u164 u165 u166 u167 u168 u169 u170 u171 u172 u173 u174 u175 u176 u177 u178 u179 u180 u181 u182 u183 u184 u185 u186 u187 u188 u189 u190 u191 u192 u193 u194 u195 u196 u197 u198 u199 u200 u201 u202 u203 u204 u205 u206 u207 u208 u209 u210 u211 u212 u213 u214 u215 u216 u217 u218 u219 u220 u221 u222 u223 u224 u225 u226 u227 u228 u229 u230 u231 u232 u233 u234 u235 u236 : Value) :
 bdT17.wp Tryz.prog (bodyPost Tryz.prog Tryz.f44 (IntBelow out w)) { tmps := #[u0, .int .i64 (nf : Int), .slice A2 l.length c2, .pointer (some ⟨X3, 0, none⟩), u4, u5, u6, .pointer (some ⟨X7, 0, none⟩), u8, u9, u10, u11, u12, u13, u14, u15, u16, u17, u18, u19, u20, u21, u22, u23, u24, u25, u26, u27, u28, u29, u30, u31, u32, u33, u34, u35, u36, u37, u38, u39, u40, u41, u42, u43, u44, u45, u46, u47, u48, u49, u50, u51, u52, u53, u54, u55, u56, u57, u58, u59, u60, u61, u62, u63, u64, u65, u66, u67, u68, u69, u70, u71, u72, u73, u74, u75, u76, u77, u78, u79, u80, u81, u82, u83, u84, u85, u86, u87, u88, u89, u90, u91, u92, u93, u94, u95, u96, u97, u98, u99, u100, u101, u102, u103, u104, u105, u106, u107, u108, u109, u110, u111, u112, u113, u114, u115, u116, u117, u118, u119, u120, u121, u122, u123, u124, u125, u126, u127, u128, u129, u130, u131, u132, u133, u134, u135, u136, u137, u138, u139, u140, u141, u142, u143, u144, u145, u146, u147, u148, u149, u150, u151, u152, u153, u154, u155, u156, u157, u158, u159, u160, u161, u162, u163, u164, u165, u166, u167, u168, u169, u170, u171, u172, u173, u174, u175, u176, u177, u178, u179, u180, u181, u182, u183, u184, u185, u186, u187, u188, u189, u190, u191, u192, u193, u194, u195, u196, u197, u198, u199, u200, u201, u202, u203, u204, u205, u206, u207, u208, u209, u210, u211, u212, u213, u214, u215, u216, u217, u218, u219, u220, u221, u222, u223, u224, u225, u226, u227, u228, u229, u230, u231, u232, u233, u234, u235, u236], defers := [] } V := by
 have hnext := fun (V2 : World) (h2 : Below V.heap.size V V2) (ho : out = (if countB x k n ats.length ks nb = false then 19 else (if k = 10 ∧ funsB nf ks = false then 2 else (if k = 8 ∧ risingB ks = false then 3 else (if ats.all (asksB (if k = 10 then l ++ groupV ks else l)) = false then 16 else 0))))) (y0 y4 y5 y6 y8 y9 y10 y11 y12 y13 y14 y15 y16 y17 y18 y19 y20 y21 y22 y23 y24 y25 y26 y27 y28 y29 y30 y31 y32 y33 y34 y35 y36 y37 y38 y39 y40 y41 y42 y43 y44 y45 y46 y47 y48 y49 y50 y51 y52 y53 y54 y55 y56 y57 y58 y59 y60 y61 y62 y63 y64 y65 y66 y67 y68 y69 y70 y71 y72 y73 y74 y75 y76 y77 y78 y79 y80 y81 y82 y83 y84 y85 y86 y87 y88 y89 y90 y91 y92 y93 y94 y95 y96 y97 y98 y99 y100 y101 y102 y103 y104 y105 y106 y107 y108 y109 y110 y111 y112 y113 y114 y115 y116 y117 y118 y119 y120 y121 y122 y123 y124 y125 y126 y127 y128 y129 y130 y131 y132 y133 y134 y135 y136 y137 y138 y139 y140 y141 y142 y143 y144 y145 y146 y147 y148 y149 y150 y151 y152 y153 y154 y155 y156 y157 y158 y159 y160 y161 y162 y163 y164 y165 y166 y167 y168 y169 y170 y171 y172 y173 y174 y175 y176 y177 y178 y179 y180 y181 y182 y183 y184 y185 y186 y187 y188 y189 y190 y191 y192 y193 y194 y195 y196 y197 y198 y199 y200 y201 y202 y203 y204 y205 y206 y207 y208 y209 y210 y211 y212 y213 y214 y215 y216 y217 y218 y219 y220 y221 y222 y223 y224 y225 y226 y227 y228 y229 y230 y231 y232 y233 y234 y235 y236 : Value) => bd_T19 C (hV.trans (h2.mono hV.size)) hnf hsm hka ho y0 y4 y5 y6 y8 y9 y10 y11 y12 y13 y14 y15 y16 y17 y18 y19 y20 y21 y22 y23 y24 y25 y26 y27 y28 y29 y30 y31 y32 y33 y34 y35 y36 y37 y38 y39 y40 y41 y42 y43 y44 y45 y46 y47 y48 y49 y50 y51 y52 y53 y54 y55 y56 y57 y58 y59 y60 y61 y62 y63 y64 y65 y66 y67 y68 y69 y70 y71 y72 y73 y74 y75 y76 y77 y78 y79 y80 y81 y82 y83 y84 y85 y86 y87 y88 y89 y90 y91 y92 y93 y94 y95 y96 y97 y98 y99 y100 y101 y102 y103 y104 y105 y106 y107 y108 y109 y110 y111 y112 y113 y114 y115 y116 y117 y118 y119 y120 y121 y122 y123 y124 y125 y126 y127 y128 y129 y130 y131 y132 y133 y134 y135 y136 y137 y138 y139 y140 y141 y142 y143 y144 y145 y146 y147 y148 y149 y150 y151 y152 y153 y154 y155 y156 y157 y158 y159 y160 y161 y162 y163 y164 y165 y166 y167 y168 y169 y170 y171 y172 y173 y174 y175 y176 y177 y178 y179 y180 y181 y182 y183 y184 y185 y186 y187 y188 y189 y190 y191 y192 y193 y194 y195 y196 y197 y198 y199 y200 y201 y202 y203 y204 y205 y206 y207 y208 y209 y210 y211 y212 y213 y214 y215 y216 y217 y218 y219 y220 y221 y222 y223 y224 y225 y226 y227 y228 y229 y230 y231 y232 y233 y234 y235 y236
 suffices hs : ∀ K : Act → World → Prop, (∀ a w2, bdT19.wp Tryz.prog (bodyPost Tryz.prog Tryz.f44 (IntBelow out w)) a w2 → K a w2) → bdC17.wp Tryz.prog (Exit.then K (bodyPost Tryz.prog Tryz.f44 (IntBelow out w))) { tmps := #[u0, .int .i64 (nf : Int), .slice A2 l.length c2, .pointer (some ⟨X3, 0, none⟩), u4, u5, u6, .pointer (some ⟨X7, 0, none⟩), u8, u9, u10, u11, u12, u13, u14, u15, u16, u17, u18, u19, u20, u21, u22, u23, u24, u25, u26, u27, u28, u29, u30, u31, u32, u33, u34, u35, u36, u37, u38, u39, u40, u41, u42, u43, u44, u45, u46, u47, u48, u49, u50, u51, u52, u53, u54, u55, u56, u57, u58, u59, u60, u61, u62, u63, u64, u65, u66, u67, u68, u69, u70, u71, u72, u73, u74, u75, u76, u77, u78, u79, u80, u81, u82, u83, u84, u85, u86, u87, u88, u89, u90, u91, u92, u93, u94, u95, u96, u97, u98, u99, u100, u101, u102, u103, u104, u105, u106, u107, u108, u109, u110, u111, u112, u113, u114, u115, u116, u117, u118, u119, u120, u121, u122, u123, u124, u125, u126, u127, u128, u129, u130, u131, u132, u133, u134, u135, u136, u137, u138, u139, u140, u141, u142, u143, u144, u145, u146, u147, u148, u149, u150, u151, u152, u153, u154, u155, u156, u157, u158, u159, u160, u161, u162, u163, u164, u165, u166, u167, u168, u169, u170, u171, u172, u173, u174, u175, u176, u177, u178, u179, u180, u181, u182, u183, u184, u185, u186, u187, u188, u189, u190, u191, u192, u193, u194, u195, u196, u197, u198, u199, u200, u201, u202, u203, u204, u205, u206, u207, u208, u209, u210, u211, u212, u213, u214, u215, u216, u217, u218, u219, u220, u221, u222, u223, u224, u225, u226, u227, u228, u229, u230, u231, u232, u233, u234, u235, u236], defers := [] } V from wp_seq (hs _ (fun _ _ h => h))
 intro K hK
 have HK := Lib.hid (fun (V2 : World) (h2 : Below V.heap.size V V2) (ho : out = (if countB x k n ats.length ks nb = false then 19 else (if k = 10 ∧ funsB nf ks = false then 2 else (if k = 8 ∧ risingB ks = false then 3 else (if ats.all (asksB (if k = 10 then l ++ groupV ks else l)) = false then 16 else 0))))) (y0 y4 y5 y6 y8 y9 y10 y11 y12 y13 y14 y15 y16 y17 y18 y19 y20 y21 y22 y23 y24 y25 y26 y27 y28 y29 y30 y31 y32 y33 y34 y35 y36 y37 y38 y39 y40 y41 y42 y43 y44 y45 y46 y47 y48 y49 y50 y51 y52 y53 y54 y55 y56 y57 y58 y59 y60 y61 y62 y63 y64 y65 y66 y67 y68 y69 y70 y71 y72 y73 y74 y75 y76 y77 y78 y79 y80 y81 y82 y83 y84 y85 y86 y87 y88 y89 y90 y91 y92 y93 y94 y95 y96 y97 y98 y99 y100 y101 y102 y103 y104 y105 y106 y107 y108 y109 y110 y111 y112 y113 y114 y115 y116 y117 y118 y119 y120 y121 y122 y123 y124 y125 y126 y127 y128 y129 y130 y131 y132 y133 y134 y135 y136 y137 y138 y139 y140 y141 y142 y143 y144 y145 y146 y147 y148 y149 y150 y151 y152 y153 y154 y155 y156 y157 y158 y159 y160 y161 y162 y163 y164 y165 y166 y167 y168 y169 y170 y171 y172 y173 y174 y175 y176 y177 y178 y179 y180 y181 y182 y183 y184 y185 y186 y187 y188 y189 y190 y191 y192 y193 y194 y195 y196 y197 y198 y199 y200 y201 y202 y203 y204 y205 y206 y207 y208 y209 y210 y211 y212 y213 y214 y215 y216 y217 y218 y219 y220 y221 y222 y223 y224 y225 y226 y227 y228 y229 y230 y231 y232 y233 y234 y235 y236 : Value) => hK _ _ (hnext V2 h2 ho y0 y4 y5 y6 y8 y9 y10 y11 y12 y13 y14 y15 y16 y17 y18 y19 y20 y21 y22 y23 y24 y25 y26 y27 y28 y29 y30 y31 y32 y33 y34 y35 y36 y37 y38 y39 y40 y41 y42 y43 y44 y45 y46 y47 y48 y49 y50 y51 y52 y53 y54 y55 y56 y57 y58 y59 y60 y61 y62 y63 y64 y65 y66 y67 y68 y69 y70 y71 y72 y73 y74 y75 y76 y77 y78 y79 y80 y81 y82 y83 y84 y85 y86 y87 y88 y89 y90 y91 y92 y93 y94 y95 y96 y97 y98 y99 y100 y101 y102 y103 y104 y105 y106 y107 y108 y109 y110 y111 y112 y113 y114 y115 y116 y117 y118 y119 y120 y121 y122 y123 y124 y125 y126 y127 y128 y129 y130 y131 y132 y133 y134 y135 y136 y137 y138 y139 y140 y141 y142 y143 y144 y145 y146 y147 y148 y149 y150 y151 y152 y153 y154 y155 y156 y157 y158 y159 y160 y161 y162 y163 y164 y165 y166 y167 y168 y169 y170 y171 y172 y173 y174 y175 y176 y177 y178 y179 y180 y181 y182 y183 y184 y185 y186 y187 y188 y189 y190 y191 y192 y193 y194 y195 y196 y197 y198 y199 y200 y201 y202 y203 y204 y205 y206 y207 y208 y209 y210 y211 y212 y213 y214 y215 y216 y217 y218 y219 y220 y221 y222 y223 y224 y225 y226 y227 y228 y229 y230 y231 y232 y233 y234 y235 y236))
 have HO := Lib.hid hout
 have HB := Lib.hid (C.out_ hV)
 obtain ⟨q0, q1, -, -, -⟩ := C.cells7 hV
 have HIS := Lib.hid (is_any n 1 16 V)
 clear C hV hsm hka
 clear hnext hK hout
 obtain ⟨Q, hQ⟩ : ∃ Q, (bodyPost Tryz.prog Tryz.f44 (IntBelow out w)) = Q := ⟨_, rfl⟩
 have HQ := Lib.hid hQ
 rw [hQ]
 clear hQ
 unfold bdC17 Tryz.f44
 dsimp only
 by_cases h2 : k = 2
 · have hk2 : (k == 2) = true := by simpa using h2
   cases hin : inB n 1 16
   · have HF := Lib.hid (show out = 28 from HO.out.trans (by rw [if_pos ⟨h2, hin⟩]))
     rw [hin] at HIS
     clear HO hin h2
     go_wp2_with (go_at_call 43; refine HIS.out.mono ?_; rintro en w' ⟨rfl, rfl⟩; dsimp only)
     rw [← HQ.out]
     go_ret
     exact ⟨ret_int HF.out.symm, HB.out⟩
   · have HF := Lib.hid (show out = (if countB x k n ats.length ks nb = false then 19 else (if k = 10 ∧ funsB nf ks = false then 2 else (if k = 8 ∧ risingB ks = false then 3 else (if ats.all (asksB (if k = 10 then l ++ groupV ks else l)) = false then 16 else 0)))) from HO.out.trans (by rw [if_neg (fun h => by rw [hin] at h; cases h.2)]))
     rw [hin] at HIS
     clear HO hin h2
     go_wp2_with (go_at_call 43; refine HIS.out.mono ?_; rintro en w' ⟨rfl, rfl⟩; dsimp only)
     exact HK.out _ (Below.refl _ _) HF.out _ _ _ _ _ _ _ _ _ _ _ _ _ _ _ _ _ _ _ _ _ _ _ _ _ _ _ _ _ _ _ _ _ _ _ _ _ _ _ _ _ _ _ _ _ _ _ _ _ _ _ _ _ _ _ _ _ _ _ _ _ _ _ _ _ _ _ _ _ _ _ _ _ _ _ _ _ _ _ _ _ _ _ _ _ _ _ _ _ _ _ _ _ _ _ _ _ _ _ _ _ _ _ _ _ _ _ _ _ _ _ _ _ _ _ _ _ _ _ _ _ _ _ _ _ _ _ _ _ _ _ _ _ _ _ _ _ _ _ _ _ _ _ _ _ _ _ _ _ _ _ _ _ _ _ _ _ _ _ _ _ _ _ _ _ _ _ _ _ _ _ _ _ _ _ _ _ _ _ _ _ _ _ _ _ _ _ _ _ _ _ _ _ _ _ _ _ _ _ _ _ _ _ _ _ _ _ _ _ _ _ _ _ _ _ _ _ _ _ _ _ _ _ _ _ _ _ _ _ _ _ _ _
 · have hk2 : (k == 2) = false := by simpa using h2
   have HF := Lib.hid (show out = (if countB x k n ats.length ks nb = false then 19 else (if k = 10 ∧ funsB nf ks = false then 2 else (if k = 8 ∧ risingB ks = false then 3 else (if ats.all (asksB (if k = 10 then l ++ groupV ks else l)) = false then 16 else 0)))) from HO.out.trans (by rw [if_neg (fun h => h2 h.1)]))
   clear HO h2
   go_wp2_with fail
   exact HK.out _ (Below.refl _ _) HF.out _ _ _ _ _ _ _ _ _ _ _ _ _ _ _ _ _ _ _ _ _ _ _ _ _ _ _ _ _ _ _ _ _ _ _ _ _ _ _ _ _ _ _ _ _ _ _ _ _ _ _ _ _ _ _ _ _ _ _ _ _ _ _ _ _ _ _ _ _ _ _ _ _ _ _ _ _ _ _ _ _ _ _ _ _ _ _ _ _ _ _ _ _ _ _ _ _ _ _ _ _ _ _ _ _ _ _ _ _ _ _ _ _ _ _ _ _ _ _ _ _ _ _ _ _ _ _ _ _ _ _ _ _ _ _ _ _ _ _ _ _ _ _ _ _ _ _ _ _ _ _ _ _ _ _ _ _ _ _ _ _ _ _ _ _ _ _ _ _ _ _ _ _ _ _ _ _ _ _ _ _ _ _ _ _ _ _ _ _ _ _ _ _ _ _ _ _ _ _ _ _ _ _ _ _ _ _ _ _ _ _ _ _ _ _ _ _ _ _ _ _ _ _ _ _ _ _ _ _ _ _ _ _
theorem bd_T12 (C : BCtx w W1 X3 X7 x k n Aa Ak Al A2 ats ks ca ck nb cb c2 l) (hV : Below W1.heap.size W1 V) (hnf : nf ≤ 1000000) (hsm : (l.length + ks.length) * 8 ≤ 140737488351232) (hka : hasA k = true) (hout : out = (if ats.all atomB = false then 2 else (if k = 2 ∧ inB n 1 16 = false then 28 else (if countB x k n ats.length ks nb = false then 19 else (if k = 10 ∧ funsB nf ks = false then 2 else (if k = 8 ∧ risingB ks = false then 3 else (if ats.all (asksB (if k = 10 then l ++ groupV ks else l)) = false then 16 else 0))))))) (u0 u4 u5 u6 u8 u9 u10 u11 u12 u13 u14 u15 u16 u17 u18 u19 u20 u21 u22 u23 u24 u25 u26 u27 u28 u29 u30 u31 u32 u33 u34 u35 u36 u37 u38 u39 u40 u41 u42 u43 u44 u45 u46 u47 u48 u49 u50 u51 u52 u53 u54 u55 u56 u57 u58 u59 u60 u61 u62 u63 u64 u65 u66 u67 u68 u69 u70 u71 u72 u73 u74 u75 u76 u77 u78 u79 u80 u81 u82 u83 u84 u85 u86 u87 u88 u89 u90 u91 u92 u93 u94 u95 u96 u97 u98 u99 u100 u101 u102 u103 u104 u105 u106 u107 u108 u109 u110 u111 u112 u113 u114 u115 u116 u117 u118 u119 u120 u121 u122 u123 u124 u125 u126 u127 u128 u129 u130 u131 u132 u133 u134 u135 u136 u137 u138 u139 u140 u141 u142 u143 u144 u145 u146 u147 u148 u149 u150 u151 u152 u153 u154 u155 u156 u157 u158 u159 u160 u161 u162 u163 u164 u165 u166 u167 u168 u169 u170 u171 u172 u173 u174 u175 u176 u177 u178 u179 u180 u181 u182 u183 u184 u185 u186 u187 u188 u189 u190 u191 u192 u193 u194 u195 u196 u197 u198 u199 u200 u201 u202 u203 u204 u205 u206 u207 u208 u209 u210 u211 u212 u213 u214 u215 u216 u217 u218 u219 u220 u221 u222 u223 u224 u225 u226 u227 u228 u229 u230 u231 u232 u233 u234 u235 u236 : Value) :
 bdT12.wp Tryz.prog (bodyPost Tryz.prog Tryz.f44 (IntBelow out w)) { tmps := #[u0, .int .i64 (nf : Int), .slice A2 l.length c2, .pointer (some ⟨X3, 0, none⟩), u4, u5, u6, .pointer (some ⟨X7, 0, none⟩), u8, u9, u10, u11, u12, u13, u14, u15, u16, u17, u18, u19, u20, u21, u22, u23, u24, u25, u26, u27, u28, u29, u30, u31, u32, u33, u34, u35, u36, u37, u38, u39, u40, u41, u42, u43, u44, u45, u46, u47, u48, u49, u50, u51, u52, u53, u54, u55, u56, u57, u58, u59, u60, u61, u62, u63, u64, u65, u66, u67, u68, u69, u70, u71, u72, u73, u74, u75, u76, u77, u78, u79, u80, u81, u82, u83, u84, u85, u86, u87, u88, u89, u90, u91, u92, u93, u94, u95, u96, u97, u98, u99, u100, u101, u102, u103, u104, u105, u106, u107, u108, u109, u110, u111, u112, u113, u114, u115, u116, u117, u118, u119, u120, u121, u122, u123, u124, u125, u126, u127, u128, u129, u130, u131, u132, u133, u134, u135, u136, u137, u138, u139, u140, u141, u142, u143, u144, u145, u146, u147, u148, u149, u150, u151, u152, u153, u154, u155, u156, u157, u158, u159, u160, u161, u162, u163, u164, u165, u166, u167, u168, u169, u170, u171, u172, u173, u174, u175, u176, u177, u178, u179, u180, u181, u182, u183, u184, u185, u186, u187, u188, u189, u190, u191, u192, u193, u194, u195, u196, u197, u198, u199, u200, u201, u202, u203, u204, u205, u206, u207, u208, u209, u210, u211, u212, u213, u214, u215, u216, u217, u218, u219, u220, u221, u222, u223, u224, u225, u226, u227, u228, u229, u230, u231, u232, u233, u234, u235, u236], defers := [] } V := by
 have hnext := fun (V2 : World) (h2 : Below V.heap.size V V2) (ho : out = (if k = 2 ∧ inB n 1 16 = false then 28 else (if countB x k n ats.length ks nb = false then 19 else (if k = 10 ∧ funsB nf ks = false then 2 else (if k = 8 ∧ risingB ks = false then 3 else (if ats.all (asksB (if k = 10 then l ++ groupV ks else l)) = false then 16 else 0)))))) (y0 y4 y5 y6 y8 y9 y10 y11 y12 y13 y14 y15 y16 y17 y18 y19 y20 y21 y22 y23 y24 y25 y26 y27 y28 y29 y30 y31 y32 y33 y34 y35 y36 y37 y38 y39 y40 y41 y42 y43 y44 y45 y46 y47 y48 y49 y50 y51 y52 y53 y54 y55 y56 y57 y58 y59 y60 y61 y62 y63 y64 y65 y66 y67 y68 y69 y70 y71 y72 y73 y74 y75 y76 y77 y78 y79 y80 y81 y82 y83 y84 y85 y86 y87 y88 y89 y90 y91 y92 y93 y94 y95 y96 y97 y98 y99 y100 y101 y102 y103 y104 y105 y106 y107 y108 y109 y110 y111 y112 y113 y114 y115 y116 y117 y118 y119 y120 y121 y122 y123 y124 y125 y126 y127 y128 y129 y130 y131 y132 y133 y134 y135 y136 y137 y138 y139 y140 y141 y142 y143 y144 y145 y146 y147 y148 y149 y150 y151 y152 y153 y154 y155 y156 y157 y158 y159 y160 y161 y162 y163 y164 y165 y166 y167 y168 y169 y170 y171 y172 y173 y174 y175 y176 y177 y178 y179 y180 y181 y182 y183 y184 y185 y186 y187 y188 y189 y190 y191 y192 y193 y194 y195 y196 y197 y198 y199 y200 y201 y202 y203 y204 y205 y206 y207 y208 y209 y210 y211 y212 y213 y214 y215 y216 y217 y218 y219 y220 y221 y222 y223 y224 y225 y226 y227 y228 y229 y230 y231 y232 y233 y234 y235 y236 : Value) => bd_T17 C (hV.trans (h2.mono hV.size)) hnf hsm hka ho y0 y4 y5 y6 y8 y9 y10 y11 y12 y13 y14 y15 y16 y17 y18 y19 y20 y21 y22 y23 y24 y25 y26 y27 y28 y29 y30 y31 y32 y33 y34 y35 y36 y37 y38 y39 y40 y41 y42 y43 y44 y45 y46 y47 y48 y49 y50 y51 y52 y53 y54 y55 y56 y57 y58 y59 y60 y61 y62 y63 y64 y65 y66 y67 y68 y69 y70 y71 y72 y73 y74 y75 y76 y77 y78 y79 y80 y81 y82 y83 y84 y85 y86 y87 y88 y89 y90 y91 y92 y93 y94 y95 y96 y97 y98 y99 y100 y101 y102 y103 y104 y105 y106 y107 y108 y109 y110 y111 y112 y113 y114 y115 y116 y117 y118 y119 y120 y121 y122 y123 y124 y125 y126 y127 y128 y129 y130 y131 y132 y133 y134 y135 y136 y137 y138 y139 y140 y141 y142 y143 y144 y145 y146 y147 y148 y149 y150 y151 y152 y153 y154 y155 y156 y157 y158 y159 y160 y161 y162 y163 y164 y165 y166 y167 y168 y169 y170 y171 y172 y173 y174 y175 y176 y177 y178 y179 y180 y181 y182 y183 y184 y185 y186 y187 y188 y189 y190 y191 y192 y193 y194 y195 y196 y197 y198 y199 y200 y201 y202 y203 y204 y205 y206 y207 y208 y209 y210 y211 y212 y213 y214 y215 y216 y217 y218 y219 y220 y221 y222 y223 y224 y225 y226 y227 y228 y229 y230 y231 y232 y233 y234 y235 y236
 suffices hs : ∀ K : Act → World → Prop, (∀ a w2, bdT17.wp Tryz.prog (bodyPost Tryz.prog Tryz.f44 (IntBelow out w)) a w2 → K a w2) → bdC12.wp Tryz.prog (Exit.then K (bodyPost Tryz.prog Tryz.f44 (IntBelow out w))) { tmps := #[u0, .int .i64 (nf : Int), .slice A2 l.length c2, .pointer (some ⟨X3, 0, none⟩), u4, u5, u6, .pointer (some ⟨X7, 0, none⟩), u8, u9, u10, u11, u12, u13, u14, u15, u16, u17, u18, u19, u20, u21, u22, u23, u24, u25, u26, u27, u28, u29, u30, u31, u32, u33, u34, u35, u36, u37, u38, u39, u40, u41, u42, u43, u44, u45, u46, u47, u48, u49, u50, u51, u52, u53, u54, u55, u56, u57, u58, u59, u60, u61, u62, u63, u64, u65, u66, u67, u68, u69, u70, u71, u72, u73, u74, u75, u76, u77, u78, u79, u80, u81, u82, u83, u84, u85, u86, u87, u88, u89, u90, u91, u92, u93, u94, u95, u96, u97, u98, u99, u100, u101, u102, u103, u104, u105, u106, u107, u108, u109, u110, u111, u112, u113, u114, u115, u116, u117, u118, u119, u120, u121, u122, u123, u124, u125, u126, u127, u128, u129, u130, u131, u132, u133, u134, u135, u136, u137, u138, u139, u140, u141, u142, u143, u144, u145, u146, u147, u148, u149, u150, u151, u152, u153, u154, u155, u156, u157, u158, u159, u160, u161, u162, u163, u164, u165, u166, u167, u168, u169, u170, u171, u172, u173, u174, u175, u176, u177, u178, u179, u180, u181, u182, u183, u184, u185, u186, u187, u188, u189, u190, u191, u192, u193, u194, u195, u196, u197, u198, u199, u200, u201, u202, u203, u204, u205, u206, u207, u208, u209, u210, u211, u212, u213, u214, u215, u216, u217, u218, u219, u220, u221, u222, u223, u224, u225, u226, u227, u228, u229, u230, u231, u232, u233, u234, u235, u236], defers := [] } V from wp_seq (hs _ (fun _ _ h => h))
 intro K hK
 have HK := Lib.hid (fun (V2 : World) (h2 : Below V.heap.size V V2) (ho : out = (if k = 2 ∧ inB n 1 16 = false then 28 else (if countB x k n ats.length ks nb = false then 19 else (if k = 10 ∧ funsB nf ks = false then 2 else (if k = 8 ∧ risingB ks = false then 3 else (if ats.all (asksB (if k = 10 then l ++ groupV ks else l)) = false then 16 else 0)))))) (y0 y4 y5 y6 y8 y9 y10 y11 y12 y13 y14 y15 y16 y17 y18 y19 y20 y21 y22 y23 y24 y25 y26 y27 y28 y29 y30 y31 y32 y33 y34 y35 y36 y37 y38 y39 y40 y41 y42 y43 y44 y45 y46 y47 y48 y49 y50 y51 y52 y53 y54 y55 y56 y57 y58 y59 y60 y61 y62 y63 y64 y65 y66 y67 y68 y69 y70 y71 y72 y73 y74 y75 y76 y77 y78 y79 y80 y81 y82 y83 y84 y85 y86 y87 y88 y89 y90 y91 y92 y93 y94 y95 y96 y97 y98 y99 y100 y101 y102 y103 y104 y105 y106 y107 y108 y109 y110 y111 y112 y113 y114 y115 y116 y117 y118 y119 y120 y121 y122 y123 y124 y125 y126 y127 y128 y129 y130 y131 y132 y133 y134 y135 y136 y137 y138 y139 y140 y141 y142 y143 y144 y145 y146 y147 y148 y149 y150 y151 y152 y153 y154 y155 y156 y157 y158 y159 y160 y161 y162 y163 y164 y165 y166 y167 y168 y169 y170 y171 y172 y173 y174 y175 y176 y177 y178 y179 y180 y181 y182 y183 y184 y185 y186 y187 y188 y189 y190 y191 y192 y193 y194 y195 y196 y197 y198 y199 y200 y201 y202 y203 y204 y205 y206 y207 y208 y209 y210 y211 y212 y213 y214 y215 y216 y217 y218 y219 y220 y221 y222 y223 y224 y225 y226 y227 y228 y229 y230 y231 y232 y233 y234 y235 y236 : Value) => hK _ _ (hnext V2 h2 ho y0 y4 y5 y6 y8 y9 y10 y11 y12 y13 y14 y15 y16 y17 y18 y19 y20 y21 y22 y23 y24 y25 y26 y27 y28 y29 y30 y31 y32 y33 y34 y35 y36 y37 y38 y39 y40 y41 y42 y43 y44 y45 y46 y47 y48 y49 y50 y51 y52 y53 y54 y55 y56 y57 y58 y59 y60 y61 y62 y63 y64 y65 y66 y67 y68 y69 y70 y71 y72 y73 y74 y75 y76 y77 y78 y79 y80 y81 y82 y83 y84 y85 y86 y87 y88 y89 y90 y91 y92 y93 y94 y95 y96 y97 y98 y99 y100 y101 y102 y103 y104 y105 y106 y107 y108 y109 y110 y111 y112 y113 y114 y115 y116 y117 y118 y119 y120 y121 y122 y123 y124 y125 y126 y127 y128 y129 y130 y131 y132 y133 y134 y135 y136 y137 y138 y139 y140 y141 y142 y143 y144 y145 y146 y147 y148 y149 y150 y151 y152 y153 y154 y155 y156 y157 y158 y159 y160 y161 y162 y163 y164 y165 y166 y167 y168 y169 y170 y171 y172 y173 y174 y175 y176 y177 y178 y179 y180 y181 y182 y183 y184 y185 y186 y187 y188 y189 y190 y191 y192 y193 y194 y195 y196 y197 y198 y199 y200 y201 y202 y203 y204 y205 y206 y207 y208 y209 y210 y211 y212 y213 y214 y215 y216 y217 y218 y219 y220 y221 y222 y223 y224 y225 y226 y227 y228 y229 y230 y231 y232 y233 y234 y235 y236))
 have HO := Lib.hid hout
 have HB := Lib.hid (C.out_ hV)
 obtain ⟨-, -, q2, -, -⟩ := C.cells7 hV
 have HQ7 := Lib.hid (fun (V2 : World) (h2 : Below V.heap.size V V2) => C.cells7 (hV.trans (h2.mono hV.size)))
 have HA := Lib.hid (fun (V2 : World) (h2 : Below V.heap.size V V2) => C.atoms (hV.trans (h2.mono hV.size)))
 have h16 := C.ha.1
 have hac := C.hac
 clear C hV hsm hka
 obtain ⟨L, hL⟩ : ∃ L, ats.length = L := ⟨_, rfl⟩
 have HL := Lib.hid hL
 rw [hL] at q2 HQ7 HA h16 hac
 clear hL
 clear hnext hK hout
 obtain ⟨Q, hQ⟩ : ∃ Q, (bodyPost Tryz.prog Tryz.f44 (IntBelow out w)) = Q := ⟨_, rfl⟩
 have HQ := Lib.hid hQ
 rw [hQ]
 clear hQ
 unfold bdC12 Tryz.f44
 dsimp only
 go_wp2_with fail
 go_loopw [14] (fun iv wr => ∃ j : Nat, j ≤ L ∧ iv = .int .i64 (j : Int) ∧ Hid (Below V.heap.size V wr) ∧ Hid ((ats.take j).all atomB = true)) (fun iv _ => L + 1 - (intOf iv).toNat)
 case atStart => exact ⟨0, by omega, rfl, Lib.hid (Below.refl _ _), Lib.hid (by simp)⟩
 case round =>
  obtain ⟨j, hj, rfl, HW, HT⟩ := hrel
  obtain ⟨-, -, q2, -, -⟩ := HQ7.out wr HW.out
  by_cases hlt : j < L
  · obtain ⟨b, o, rfl, y0, y1⟩ := HA.out wr HW.out j hlt
    have e1 : (0 : Int) ≤ (j : Int) := by omega
    have e2 : (j : Int) < (L : Int) := by omega
    have e4 : IntKind.i64.wrap ((j : Int) + 1) = (j : Int) + 1 := by rw [IntKind.wrap_i64]; omega
    have e5 : (L : Int) ≤ (ca : Int) := by omega
    have HG := Lib.hid (getD_at (ats := ats) (j := j) (by rw [HL.out]; exact hlt))
    generalize ats[j]?.getD default = at_ at *
    obtain ⟨v, m⟩ := at_
    simp only [] at y0 y1
    cases v
    · have HWR := Lib.hid (fun (v : World) => (show Calls Tryz.prog 23 #[.int .i64 m] v fun e w' => e = .returned (.int .i64 (wrap31 m)) ∧ w' = v from (rwrap_any m v).mono fun e w' h => ⟨h.1, h.2.symm⟩))
      cases hin : inB m (-1073741824) 1073741823
      · have HF := Lib.hid (show out = 2 from HO.out.trans (by rw [if_pos (all_false HG.out (f := atomB) (by simp [atomB, hin]))]))
        have hne : (wrap31 m != m) = true := by simpa using wrap31_out hin
        clear hin
        generalize wrap31 m = z at *
        go_wp2_with fail
        go_quiet ((go_at_call 23; exact Calls.quiet_of_same (HWR.out _)))
        go_wp2_with fail
        rw [← HQ.out]
        go_ret
        exact ⟨ret_int HF.out.symm, below_drewN (HB.out.trans (HW.out.mono HB.out.size)) _⟩
      · have HT2 := Lib.hid (all_take_succ HG.out HT.out (f := atomB) (by simp [atomB, hin]))
        have hne : (wrap31 m != m) = false := by simpa using wrap31_in hin
        clear hin
        generalize wrap31 m = z at *
        go_wp2_with fail
        go_quiet ((go_at_call 23; exact Calls.quiet_of_same (HWR.out _)))
        go_wp2_with fail
        go_roundw
        case rel => exact ⟨j + 1, by omega, by go_num, Lib.hid (below_drewN HW.out _), HT2⟩
        case measure => simp [intOf]; omega
    · have HT2 := Lib.hid (all_take_succ HG.out HT.out (f := atomB) rfl)
      go_wp2_with fail
      go_quiet (fail)
      go_wp2_with fail
      go_roundw
      case rel => exact ⟨j + 1, by omega, by go_num, Lib.hid (below_drewN HW.out _), HT2⟩
      case measure => simp [intOf]; omega
  · have e2 : ¬ (j : Int) < (L : Int) := by omega
    have HF := Lib.hid (show out = (if k = 2 ∧ inB n 1 16 = false then 28 else (if countB x k n ats.length ks nb = false then 19 else (if k = 10 ∧ funsB nf ks = false then 2 else (if k = 8 ∧ risingB ks = false then 3 else (if ats.all (asksB (if k = 10 then l ++ groupV ks else l)) = false then 16 else 0))))) from HO.out.trans (by
     have h := HT.out
     rw [List.take_of_length_le (by rw [HL.out]; omega)] at h
     rw [if_neg (by rw [h]; decide)]))
    go_wp2_with fail
    exact HK.out _ HW.out HF.out _ _ _ _ _ _ _ _ _ _ _ _ _ _ _ _ _ _ _ _ _ _ _ _ _ _ _ _ _ _ _ _ _ _ _ _ _ _ _ _ _ _ _ _ _ _ _ _ _ _ _ _ _ _ _ _ _ _ _ _ _ _ _ _ _ _ _ _ _ _ _ _ _ _ _ _ _ _ _ _ _ _ _ _ _ _ _ _ _ _ _ _ _ _ _ _ _ _ _ _ _ _ _ _ _ _ _ _ _ _ _ _ _ _ _ _ _ _ _ _ _ _ _ _ _ _ _ _ _ _ _ _ _ _ _ _ _ _ _ _ _ _ _ _ _ _ _ _ _ _ _ _ _ _ _ _ _ _ _ _ _ _ _ _ _ _ _ _ _ _ _ _ _ _ _ _ _ _ _ _ _ _ _ _ _ _ _ _ _ _ _ _ _ _ _ _ _ _ _ _ _ _ _ _ _ _ _ _ _ _ _ _ _ _ _ _ _ _ _ _ _ _ _ _ _ _ _ _ _ _ _ _ _
theorem bd_T7 (C : BCtx w W1 X3 X7 x k n Aa Ak Al A2 ats ks ca ck nb cb c2 l) (hV : Below W1.heap.size W1 V) (hnf : nf ≤ 1000000) (hsm : (l.length + ks.length) * 8 ≤ 140737488351232) (hka : hasA k = true) (hout : out = (if k = 10 ∧ (groupV ks).all varB = false then 2 else (if ats.all atomB = false then 2 else (if k = 2 ∧ inB n 1 16 = false then 28 else (if countB x k n ats.length ks nb = false then 19 else (if k = 10 ∧ funsB nf ks = false then 2 else (if k = 8 ∧ risingB ks = false then 3 else (if ats.all (asksB (if k = 10 then l ++ groupV ks else l)) = false then 16 else 0)))))))) (u0 u4 u5 u6 u8 u9 u10 u11 u12 u13 u14 u15 u16 u17 u18 u19 u20 u21 u22 u23 u24 u25 u26 u27 u28 u29 u30 u31 u32 u33 u34 u35 u36 u37 u38 u39 u40 u41 u42 u43 u44 u45 u46 u47 u48 u49 u50 u51 u52 u53 u54 u55 u56 u57 u58 u59 u60 u61 u62 u63 u64 u65 u66 u67 u68 u69 u70 u71 u72 u73 u74 u75 u76 u77 u78 u79 u80 u81 u82 u83 u84 u85 u86 u87 u88 u89 u90 u91 u92 u93 u94 u95 u96 u97 u98 u99 u100 u101 u102 u103 u104 u105 u106 u107 u108 u109 u110 u111 u112 u113 u114 u115 u116 u117 u118 u119 u120 u121 u122 u123 u124 u125 u126 u127 u128 u129 u130 u131 u132 u133 u134 u135 u136 u137 u138 u139 u140 u141 u142 u143 u144 u145 u146 u147 u148 u149 u150 u151 u152 u153 u154 u155 u156 u157 u158 u159 u160 u161 u162 u163 u164 u165 u166 u167 u168 u169 u170 u171 u172 u173 u174 u175 u176 u177 u178 u179 u180 u181 u182 u183 u184 u185 u186 u187 u188 u189 u190 u191 u192 u193 u194 u195 u196 u197 u198 u199 u200 u201 u202 u203 u204 u205 u206 u207 u208 u209 u210 u211 u212 u213 u214 u215 u216 u217 u218 u219 u220 u221 u222 u223 u224 u225 u226 u227 u228 u229 u230 u231 u232 u233 u234 u235 u236 : Value) :
 bdT7.wp Tryz.prog (bodyPost Tryz.prog Tryz.f44 (IntBelow out w)) { tmps := #[u0, .int .i64 (nf : Int), .slice A2 l.length c2, .pointer (some ⟨X3, 0, none⟩), u4, u5, u6, .pointer (some ⟨X7, 0, none⟩), u8, u9, u10, u11, u12, u13, u14, u15, u16, u17, u18, u19, u20, u21, u22, u23, u24, u25, u26, u27, u28, u29, u30, u31, u32, u33, u34, u35, u36, u37, u38, u39, u40, u41, u42, u43, u44, u45, u46, u47, u48, u49, u50, u51, u52, u53, u54, u55, u56, u57, u58, u59, u60, u61, u62, u63, u64, u65, u66, u67, u68, u69, u70, u71, u72, u73, u74, u75, u76, u77, u78, u79, u80, u81, u82, u83, u84, u85, u86, u87, u88, u89, u90, u91, u92, u93, u94, u95, u96, u97, u98, u99, u100, u101, u102, u103, u104, u105, u106, u107, u108, u109, u110, u111, u112, u113, u114, u115, u116, u117, u118, u119, u120, u121, u122, u123, u124, u125, u126, u127, u128, u129, u130, u131, u132, u133, u134, u135, u136, u137, u138, u139, u140, u141, u142, u143, u144, u145, u146, u147, u148, u149, u150, u151, u152, u153, u154, u155, u156, u157, u158, u159, u160, u161, u162, u163, u164, u165, u166, u167, u168, u169, u170, u171, u172, u173, u174, u175, u176, u177, u178, u179, u180, u181, u182, u183, u184, u185, u186, u187, u188, u189, u190, u191, u192, u193, u194, u195, u196, u197, u198, u199, u200, u201, u202, u203, u204, u205, u206, u207, u208, u209, u210, u211, u212, u213, u214, u215, u216, u217, u218, u219, u220, u221, u222, u223, u224, u225, u226, u227, u228, u229, u230, u231, u232, u233, u234, u235, u236], defers := [] } V := by
 have hnext := fun (V2 : World) (h2 : Below V.heap.size V V2) (ho : out = (if ats.all atomB = false then 2 else (if k = 2 ∧ inB n 1 16 = false then 28 else (if countB x k n ats.length ks nb = false then 19 else (if k = 10 ∧ funsB nf ks = false then 2 else (if k = 8 ∧ risingB ks = false then 3 else (if ats.all (asksB (if k = 10 then l ++ groupV ks else l)) = false then 16 else 0))))))) (y0 y4 y5 y6 y8 y9 y10 y11 y12 y13 y14 y15 y16 y17 y18 y19 y20 y21 y22 y23 y24 y25 y26 y27 y28 y29 y30 y31 y32 y33 y34 y35 y36 y37 y38 y39 y40 y41 y42 y43 y44 y45 y46 y47 y48 y49 y50 y51 y52 y53 y54 y55 y56 y57 y58 y59 y60 y61 y62 y63 y64 y65 y66 y67 y68 y69 y70 y71 y72 y73 y74 y75 y76 y77 y78 y79 y80 y81 y82 y83 y84 y85 y86 y87 y88 y89 y90 y91 y92 y93 y94 y95 y96 y97 y98 y99 y100 y101 y102 y103 y104 y105 y106 y107 y108 y109 y110 y111 y112 y113 y114 y115 y116 y117 y118 y119 y120 y121 y122 y123 y124 y125 y126 y127 y128 y129 y130 y131 y132 y133 y134 y135 y136 y137 y138 y139 y140 y141 y142 y143 y144 y145 y146 y147 y148 y149 y150 y151 y152 y153 y154 y155 y156 y157 y158 y159 y160 y161 y162 y163 y164 y165 y166 y167 y168 y169 y170 y171 y172 y173 y174 y175 y176 y177 y178 y179 y180 y181 y182 y183 y184 y185 y186 y187 y188 y189 y190 y191 y192 y193 y194 y195 y196 y197 y198 y199 y200 y201 y202 y203 y204 y205 y206 y207 y208 y209 y210 y211 y212 y213 y214 y215 y216 y217 y218 y219 y220 y221 y222 y223 y224 y225 y226 y227 y228 y229 y230 y231 y232 y233 y234 y235 y236 : Value) => bd_T12 C (hV.trans (h2.mono hV.size)) hnf hsm hka ho y0 y4 y5 y6 y8 y9 y10 y11 y12 y13 y14 y15 y16 y17 y18 y19 y20 y21 y22 y23 y24 y25 y26 y27 y28 y29 y30 y31 y32 y33 y34 y35 y36 y37 y38 y39 y40 y41 y42 y43 y44 y45 y46 y47 y48 y49 y50 y51 y52 y53 y54 y55 y56 y57 y58 y59 y60 y61 y62 y63 y64 y65 y66 y67 y68 y69 y70 y71 y72 y73 y74 y75 y76 y77 y78 y79 y80 y81 y82 y83 y84 y85 y86 y87 y88 y89 y90 y91 y92 y93 y94 y95 y96 y97 y98 y99 y100 y101 y102 y103 y104 y105 y106 y107 y108 y109 y110 y111 y112 y113 y114 y115 y116 y117 y118 y119 y120 y121 y122 y123 y124 y125 y126 y127 y128 y129 y130 y131 y132 y133 y134 y135 y136 y137 y138 y139 y140 y141 y142 y143 y144 y145 y146 y147 y148 y149 y150 y151 y152 y153 y154 y155 y156 y157 y158 y159 y160 y161 y162 y163 y164 y165 y166 y167 y168 y169 y170 y171 y172 y173 y174 y175 y176 y177 y178 y179 y180 y181 y182 y183 y184 y185 y186 y187 y188 y189 y190 y191 y192 y193 y194 y195 y196 y197 y198 y199 y200 y201 y202 y203 y204 y205 y206 y207 y208 y209 y210 y211 y212 y213 y214 y215 y216 y217 y218 y219 y220 y221 y222 y223 y224 y225 y226 y227 y228 y229 y230 y231 y232 y233 y234 y235 y236
 suffices hs : ∀ K : Act → World → Prop, (∀ a w2, bdT12.wp Tryz.prog (bodyPost Tryz.prog Tryz.f44 (IntBelow out w)) a w2 → K a w2) → bdC7.wp Tryz.prog (Exit.then K (bodyPost Tryz.prog Tryz.f44 (IntBelow out w))) { tmps := #[u0, .int .i64 (nf : Int), .slice A2 l.length c2, .pointer (some ⟨X3, 0, none⟩), u4, u5, u6, .pointer (some ⟨X7, 0, none⟩), u8, u9, u10, u11, u12, u13, u14, u15, u16, u17, u18, u19, u20, u21, u22, u23, u24, u25, u26, u27, u28, u29, u30, u31, u32, u33, u34, u35, u36, u37, u38, u39, u40, u41, u42, u43, u44, u45, u46, u47, u48, u49, u50, u51, u52, u53, u54, u55, u56, u57, u58, u59, u60, u61, u62, u63, u64, u65, u66, u67, u68, u69, u70, u71, u72, u73, u74, u75, u76, u77, u78, u79, u80, u81, u82, u83, u84, u85, u86, u87, u88, u89, u90, u91, u92, u93, u94, u95, u96, u97, u98, u99, u100, u101, u102, u103, u104, u105, u106, u107, u108, u109, u110, u111, u112, u113, u114, u115, u116, u117, u118, u119, u120, u121, u122, u123, u124, u125, u126, u127, u128, u129, u130, u131, u132, u133, u134, u135, u136, u137, u138, u139, u140, u141, u142, u143, u144, u145, u146, u147, u148, u149, u150, u151, u152, u153, u154, u155, u156, u157, u158, u159, u160, u161, u162, u163, u164, u165, u166, u167, u168, u169, u170, u171, u172, u173, u174, u175, u176, u177, u178, u179, u180, u181, u182, u183, u184, u185, u186, u187, u188, u189, u190, u191, u192, u193, u194, u195, u196, u197, u198, u199, u200, u201, u202, u203, u204, u205, u206, u207, u208, u209, u210, u211, u212, u213, u214, u215, u216, u217, u218, u219, u220, u221, u222, u223, u224, u225, u226, u227, u228, u229, u230, u231, u232, u233, u234, u235, u236], defers := [] } V from wp_seq (hs _ (fun _ _ h => h))
 intro K hK
 have HK := Lib.hid (fun (V2 : World) (h2 : Below V.heap.size V V2) (ho : out = (if ats.all atomB = false then 2 else (if k = 2 ∧ inB n 1 16 = false then 28 else (if countB x k n ats.length ks nb = false then 19 else (if k = 10 ∧ funsB nf ks = false then 2 else (if k = 8 ∧ risingB ks = false then 3 else (if ats.all (asksB (if k = 10 then l ++ groupV ks else l)) = false then 16 else 0))))))) (y0 y4 y5 y6 y8 y9 y10 y11 y12 y13 y14 y15 y16 y17 y18 y19 y20 y21 y22 y23 y24 y25 y26 y27 y28 y29 y30 y31 y32 y33 y34 y35 y36 y37 y38 y39 y40 y41 y42 y43 y44 y45 y46 y47 y48 y49 y50 y51 y52 y53 y54 y55 y56 y57 y58 y59 y60 y61 y62 y63 y64 y65 y66 y67 y68 y69 y70 y71 y72 y73 y74 y75 y76 y77 y78 y79 y80 y81 y82 y83 y84 y85 y86 y87 y88 y89 y90 y91 y92 y93 y94 y95 y96 y97 y98 y99 y100 y101 y102 y103 y104 y105 y106 y107 y108 y109 y110 y111 y112 y113 y114 y115 y116 y117 y118 y119 y120 y121 y122 y123 y124 y125 y126 y127 y128 y129 y130 y131 y132 y133 y134 y135 y136 y137 y138 y139 y140 y141 y142 y143 y144 y145 y146 y147 y148 y149 y150 y151 y152 y153 y154 y155 y156 y157 y158 y159 y160 y161 y162 y163 y164 y165 y166 y167 y168 y169 y170 y171 y172 y173 y174 y175 y176 y177 y178 y179 y180 y181 y182 y183 y184 y185 y186 y187 y188 y189 y190 y191 y192 y193 y194 y195 y196 y197 y198 y199 y200 y201 y202 y203 y204 y205 y206 y207 y208 y209 y210 y211 y212 y213 y214 y215 y216 y217 y218 y219 y220 y221 y222 y223 y224 y225 y226 y227 y228 y229 y230 y231 y232 y233 y234 y235 y236 : Value) => hK _ _ (hnext V2 h2 ho y0 y4 y5 y6 y8 y9 y10 y11 y12 y13 y14 y15 y16 y17 y18 y19 y20 y21 y22 y23 y24 y25 y26 y27 y28 y29 y30 y31 y32 y33 y34 y35 y36 y37 y38 y39 y40 y41 y42 y43 y44 y45 y46 y47 y48 y49 y50 y51 y52 y53 y54 y55 y56 y57 y58 y59 y60 y61 y62 y63 y64 y65 y66 y67 y68 y69 y70 y71 y72 y73 y74 y75 y76 y77 y78 y79 y80 y81 y82 y83 y84 y85 y86 y87 y88 y89 y90 y91 y92 y93 y94 y95 y96 y97 y98 y99 y100 y101 y102 y103 y104 y105 y106 y107 y108 y109 y110 y111 y112 y113 y114 y115 y116 y117 y118 y119 y120 y121 y122 y123 y124 y125 y126 y127 y128 y129 y130 y131 y132 y133 y134 y135 y136 y137 y138 y139 y140 y141 y142 y143 y144 y145 y146 y147 y148 y149 y150 y151 y152 y153 y154 y155 y156 y157 y158 y159 y160 y161 y162 y163 y164 y165 y166 y167 y168 y169 y170 y171 y172 y173 y174 y175 y176 y177 y178 y179 y180 y181 y182 y183 y184 y185 y186 y187 y188 y189 y190 y191 y192 y193 y194 y195 y196 y197 y198 y199 y200 y201 y202 y203 y204 y205 y206 y207 y208 y209 y210 y211 y212 y213 y214 y215 y216 y217 y218 y219 y220 y221 y222 y223 y224 y225 y226 y227 y228 y229 y230 y231 y232 y233 y234 y235 y236))
 have HO := Lib.hid hout
 have HB := Lib.hid (C.out_ hV)
 obtain ⟨q0, -, -, q3, -⟩ := C.cells7 hV
 have HKEY := Lib.hid (C.keys hV)
 have h64 := C.hk.1
 have hkc := C.hkc
 clear C hV hsm hka
 obtain ⟨L, hL⟩ : ∃ L, ks.length = L := ⟨_, rfl⟩
 have HL := Lib.hid hL
 rw [hL] at q3 HKEY h64 hkc
 clear hL
 clear hnext hK hout
 obtain ⟨Q, hQ⟩ : ∃ Q, (bodyPost Tryz.prog Tryz.f44 (IntBelow out w)) = Q := ⟨_, rfl⟩
 have HQ := Lib.hid hQ
 rw [hQ]
 clear hQ
 unfold bdC7 Tryz.f44
 dsimp only
 by_cases h10 : k = 10
 · have hk10 : (k == 10) = true := by simpa using h10
   have HO8 := Lib.hid (show out = (if (groupV ks).all varB = false then 2 else (if ats.all atomB = false then 2 else (if k = 2 ∧ inB n 1 16 = false then 28 else (if countB x k n ats.length ks nb = false then 19 else (if k = 10 ∧ funsB nf ks = false then 2 else (if k = 8 ∧ risingB ks = false then 3 else (if ats.all (asksB (if k = 10 then l ++ groupV ks else l)) = false then 16 else 0))))))) from HO.out.trans (by simp only [h10, true_and]))
   have HG := Lib.hid (groupV_get ks)
   have hl := groupV_len ks
   rw [HL.out] at HG hl
   have HGL := Lib.hid hl
   clear h10 HO
   go_wp2_with fail
   go_loopw [13] (fun iv wr => ∃ j : Nat, 3 * j ≤ L + 2 ∧ iv = .int .i64 (3 * (j : Int)) ∧ V = wr ∧ Hid (((groupV ks).take j).all varB = true)) (fun iv _ => 3 * L + 9 - (intOf iv).toNat)
   case atStart => exact ⟨0, by omega, rfl, rfl, Lib.hid (by simp)⟩
   case round =>
    obtain ⟨j, hj, rfl, rfl, HA⟩ := hrel
    by_cases hlt : 3 * j < L
    · obtain ⟨b, o, rfl, hall⟩ := HKEY.out (3 * j) hlt
      have qk := hall (3 * j) hlt
      clear hall
      have e1 : (0 : Int) ≤ 3 * (j : Int) := by omega
      have e2 : 3 * (j : Int) < (L : Int) := by omega
      have e3 : (3 * (j : Int)).toNat = 3 * j := by omega
      have e4 : IntKind.i64.wrap (3 * (j : Int) + 3) = 3 * (j : Int) + 3 := by rw [IntKind.wrap_i64]; omega
      have e5 : (L : Int) ≤ (ck : Int) := by omega
      have HGJ := Lib.hid (HG.out j hlt)
      have HIS := Lib.hid (isVar_any (nth ks (3 * j)) V)
      cases hin : varB (nth ks (3 * j))
      · have HF := Lib.hid (show out = 2 from HO8.out.trans (by rw [if_pos (all_false HGJ.out hin)]))
        rw [hin] at HIS
        clear hin
        generalize nth ks (3 * j) = kj at *
        go_wp2_with (go_at_call 26; refine HIS.out.mono ?_; rintro en w' ⟨rfl, rfl⟩; dsimp only)
        rw [← HQ.out]
        go_ret
        exact ⟨ret_int HF.out.symm, HB.out⟩
      · have HA2 := Lib.hid (all_take_succ HGJ.out HA.out hin)
        rw [hin] at HIS
        clear hin
        generalize nth ks (3 * j) = kj at *
        go_wp2_with (go_at_call 26; refine HIS.out.mono ?_; rintro en w' ⟨rfl, rfl⟩; dsimp only)
        go_roundw
        case rel => exact ⟨j + 1, by omega, by go_num, (by first | rfl | trivial), HA2⟩
        case measure => simp [intOf]; omega
    · have e2 : ¬ 3 * (j : Int) < (L : Int) := by omega
      have HF := Lib.hid (show out = (if ats.all atomB = false then 2 else (if k = 2 ∧ inB n 1 16 = false then 28 else (if countB x k n ats.length ks nb = false then 19 else (if k = 10 ∧ funsB nf ks = false then 2 else (if k = 8 ∧ risingB ks = false then 3 else (if ats.all (asksB (if k = 10 then l ++ groupV ks else l)) = false then 16 else 0)))))) from HO8.out.trans (by
       have h := HA.out
       rw [List.take_of_length_le (by rw [HGL.out]; omega)] at h
       rw [if_neg (by rw [h]; decide)]))
      go_wp2_with fail
      exact HK.out _ (Below.refl _ _) HF.out _ _ _ _ _ _ _ _ _ _ _ _ _ _ _ _ _ _ _ _ _ _ _ _ _ _ _ _ _ _ _ _ _ _ _ _ _ _ _ _ _ _ _ _ _ _ _ _ _ _ _ _ _ _ _ _ _ _ _ _ _ _ _ _ _ _ _ _ _ _ _ _ _ _ _ _ _ _ _ _ _ _ _ _ _ _ _ _ _ _ _ _ _ _ _ _ _ _ _ _ _ _ _ _ _ _ _ _ _ _ _ _ _ _ _ _ _ _ _ _ _ _ _ _ _ _ _ _ _ _ _ _ _ _ _ _ _ _ _ _ _ _ _ _ _ _ _ _ _ _ _ _ _ _ _ _ _ _ _ _ _ _ _ _ _ _ _ _ _ _ _ _ _ _ _ _ _ _ _ _ _ _ _ _ _ _ _ _ _ _ _ _ _ _ _ _ _ _ _ _ _ _ _ _ _ _ _ _ _ _ _ _ _ _ _ _ _ _ _ _ _ _ _ _ _ _ _ _ _ _ _ _ _
 · have hk10 : (k == 10) = false := by simpa using h10
   have HF := Lib.hid (show out = (if ats.all atomB = false then 2 else (if k = 2 ∧ inB n 1 16 = false then 28 else (if countB x k n ats.length ks nb = false then 19 else (if k = 10 ∧ funsB nf ks = false then 2 else (if k = 8 ∧ risingB ks = false then 3 else (if ats.all (asksB (if k = 10 then l ++ groupV ks else l)) = false then 16 else 0)))))) from HO.out.trans (by rw [if_neg (fun h => h10 h.1)]))
   clear h10 HO
   cases hL0 : decide ((0 : Int) < (L : Int))
   · go_wp2_with fail
     go_loopw [13] (fun iv wr => iv = .int .i64 0 ∧ V = wr) (fun iv _ => 0)
     case atStart => exact ⟨rfl, rfl⟩
     case round =>
      obtain ⟨rfl, rfl⟩ := hrel
      go_wp2_with fail
      all_goals exact HK.out _ (Below.refl _ _) HF.out _ _ _ _ _ _ _ _ _ _ _ _ _ _ _ _ _ _ _ _ _ _ _ _ _ _ _ _ _ _ _ _ _ _ _ _ _ _ _ _ _ _ _ _ _ _ _ _ _ _ _ _ _ _ _ _ _ _ _ _ _ _ _ _ _ _ _ _ _ _ _ _ _ _ _ _ _ _ _ _ _ _ _ _ _ _ _ _ _ _ _ _ _ _ _ _ _ _ _ _ _ _ _ _ _ _ _ _ _ _ _ _ _ _ _ _ _ _ _ _ _ _ _ _ _ _ _ _ _ _ _ _ _ _ _ _ _ _ _ _ _ _ _ _ _ _ _ _ _ _ _ _ _ _ _ _ _ _ _ _ _ _ _ _ _ _ _ _ _ _ _ _ _ _ _ _ _ _ _ _ _ _ _ _ _ _ _ _ _ _ _ _ _ _ _ _ _ _ _ _ _ _ _ _ _ _ _ _ _ _ _ _ _ _ _ _ _ _ _ _ _ _ _ _ _ _ _ _ _ _ _ _ _
   · go_wp2_with fail
     go_loopw [13] (fun iv wr => iv = .int .i64 0 ∧ V = wr) (fun iv _ => 0)
     case atStart => exact ⟨rfl, rfl⟩
     case round =>
      obtain ⟨rfl, rfl⟩ := hrel
      go_wp2_with fail
      all_goals exact HK.out _ (Below.refl _ _) HF.out _ _ _ _ _ _ _ _ _ _ _ _ _ _ _ _ _ _ _ _ _ _ _ _ _ _ _ _ _ _ _ _ _ _ _ _ _ _ _ _ _ _ _ _ _ _ _ _ _ _ _ _ _ _ _ _ _ _ _ _ _ _ _ _ _ _ _ _ _ _ _ _ _ _ _ _ _ _ _ _ _ _ _ _ _ _ _ _ _ _ _ _ _ _ _ _ _ _ _ _ _ _ _ _ _ _ _ _ _ _ _ _ _ _ _ _ _ _ _ _ _ _ _ _ _ _ _ _ _ _ _ _ _ _ _ _ _ _ _ _ _ _ _ _ _ _ _ _ _ _ _ _ _ _ _ _ _ _ _ _ _ _ _ _ _ _ _ _ _ _ _ _ _ _ _ _ _ _ _ _ _ _ _ _ _ _ _ _ _ _ _ _ _ _ _ _ _ _ _ _ _ _ _ _ _ _ _ _ _ _ _ _ _ _ _ _ _ _ _ _ _ _ _ _ _ _ _ _ _ _ _ _ _
end
end Go.Proofs.YtnobggabjpcbfaaGreat
