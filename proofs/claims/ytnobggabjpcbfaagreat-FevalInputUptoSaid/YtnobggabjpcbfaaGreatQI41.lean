/-
 1 texts of this seat in one: S6.
-/
import Derived.Test.YtnobggabjpcbfaaGreatQI40
set_option maxRecDepth 100000
set_option maxHeartbeats 16000000
set_option linter.unusedVariables false
set_option linter.unusedSimpArgs false
namespace Go.Proofs.YtnobggabjpcbfaaGreat
open Go.RowKit Go.Maps
section
variable {w W1 : World} {X3 X7 : Nat} {x k n : Int} {Aa Ak Al A2 : Option Addr} {ats : List Atm} {ks : List Int} {ca ck nb cb c2 : Nat} {l : List Int} {out : Int} {V : World} {nf : Nat}
theorem bd_T5 (C : BCtx w W1 X3 X7 x k n Aa Ak Al A2 ats ks ca ck nb cb c2 l) (hV : Below W1.heap.size W1 V) (hnf : nf ≤ 1000000) (hsm : (l.length + ks.length) * 8 ≤ 140737488351232) (hka : hasA k = true) (hout : out = (if varB x = false ∨ nB nf k n = false then 2 else (if k = 10 ∧ (groupV ks).all varB = false then 2 else (if ats.all atomB = false then 2 else (if k = 2 ∧ inB n 1 16 = false then 28 else (if countB x k n ats.length ks nb = false then 19 else (if k = 10 ∧ funsB nf ks = false then 2 else (if k = 8 ∧ risingB ks = false then 3 else (if ats.all (asksB (if k = 10 then l ++ groupV ks else l)) = false then 16 else 0))))))))) (u0 u4 u5 u6 u8 u9 u10 u11 u12 u13 u14 u15 u16 u17 u18 u19 u20 u21 u22 u23 u24 u25 u26 u27 u28 u29 u30 u31 u32 u33 u34 u35 u36 u37 u38 u39 u40 u41 u42 u43 u44 u45 u46 u47 u48 u49 u50 u51 u52 u53 u54 u55 u56 u57 u58 u59 u60 u61 u62 u63 u64 u65 u66 u67 u68 u69 u70 u71 u72 u73 u74 u75 u76 u77 u78 u79 u80 u81 u82 u83 u84 u85 u86 u87 u88 u89 u90 u91 u92 u93 u94 u95 u96 u97 u98 u99 u100 u101 u102 u103 u104 u105 u106 u107 u108 u109 u110 u111 u112 u113 u114 u115 u116 u117 u118 u119 u120 u121 u122 u123 u124 u125 u126 u127 u128 u129 u130 u131 u132 u133 u134 u135 u136 u137 u138 u139 u140 u141 u142 u143 u144 u145 u146 u147 u148 u149 u150 u151 u152 u153 u154 u155 u156 u157 u158 u159 u160 u161 u162 u163 u164 u165 u166 u167 u168 u169 u170 u171 u172 u173 u174 u175 u176 u177 u178 u179 u180 u181 u182 u183 u184 u185 u186 u187 u188 u189 u190 u191 u192 u193 u194 u195 u196 u197 u198 u199 u200 u201 u202 u203 u204 u205 u206 u207 u208 u209 u210 u211 u212 u213 u214 u215 u216 u217 u218 u219 u220 u221 u222 u223 u224 u225 u226 u227 u228 u229 u230 u231 u232 u233 u234 u235 u236 : Value) :
 bdT5.wp Tryz.prog (bodyPost Tryz.prog Tryz.f44 (IntBelow out w)) { tmps := #[u0, .int .i64 (nf : Int), .slice A2 l.length c2, .pointer (some ⟨X3, 0, none⟩), u4, u5, u6, .pointer (some ⟨X7, 0, none⟩), u8, u9, u10, u11, u12, u13, u14, u15, u16, u17, u18, u19, u20, u21, u22, u23, u24, u25, u26, u27, u28, u29, u30, u31, u32, u33, u34, u35, u36, u37, u38, u39, u40, u41, u42, u43, u44, u45, u46, u47, u48, u49, u50, u51, u52, u53, u54, u55, u56, u57, u58, u59, u60, u61, u62, u63, u64, u65, u66, u67, u68, u69, u70, u71, u72, u73, u74, u75, u76, u77, u78, u79, u80, u81, u82, u83, u84, u85, u86, u87, u88, u89, u90, u91, u92, u93, u94, u95, u96, u97, u98, u99, u100, u101, u102, u103, u104, u105, u106, u107, u108, u109, u110, u111, u112, u113, u114, u115, u116, u117, u118, u119, u120, u121, u122, u123, u124, u125, u126, u127, u128, u129, u130, u131, u132, u133, u134, u135, u136, u137, u138, u139, u140, u141, u142, u143, u144, u145, u146, u147, u148, u149, u150, u151, u152, u153, u154, u155, u156, u157, u158, u159, u160, u161, u162, u163, u164, u165, u166, u167, u168, u169, u170, u171, u172, u173, u174, u175, u176, u177, u178, u179, u180, u181, u182, u183, u184, u185, u186, u187, u188, u189, u190, u191, u192, u193, u194, u195, u196, u197, u198, u199, u200, u201, u202, u203, u204, u205, u206, u207, u208, u209, u210, u211, u212, u213, u214, u215, u216, u217, u218, u219, u220, u221, u222, u223, u224, u225, u226, u227, u228, u229, u230, u231, u232, u233, u234, u235, u236], defers := [] } V := by
 have hnext := fun (V2 : World) (h2 : Below V.heap.size V V2) (ho : out = (if k = 10 ∧ (groupV ks).all varB = false then 2 else (if ats.all atomB = false then 2 else (if k = 2 ∧ inB n 1 16 = false then 28 else (if countB x k n ats.length ks nb = false then 19 else (if k = 10 ∧ funsB nf ks = false then 2 else (if k = 8 ∧ risingB ks = false then 3 else (if ats.all (asksB (if k = 10 then l ++ groupV ks else l)) = false then 16 else 0)))))))) (y0 y4 y5 y6 y8 y9 y10 y11 y12 y13 y14 y15 y16 y17 y18 y19 y20 y21 y22 y23 y24 y25 y26 y27 y28 y29 y30 y31 y32 y33 y34 y35 y36 y37 y38 y39 y40 y41 y42 y43 y44 y45 y46 y47 y48 y49 y50 y51 y52 y53 y54 y55 y56 y57 y58 y59 y60 y61 y62 y63 y64 y65 y66 y67 y68 y69 y70 y71 y72 y73 y74 y75 y76 y77 y78 y79 y80 y81 y82 y83 y84 y85 y86 y87 y88 y89 y90 y91 y92 y93 y94 y95 y96 y97 y98 y99 y100 y101 y102 y103 y104 y105 y106 y107 y108 y109 y110 y111 y112 y113 y114 y115 y116 y117 y118 y119 y120 y121 y122 y123 y124 y125 y126 y127 y128 y129 y130 y131 y132 y133 y134 y135 y136 y137 y138 y139 y140 y141 y142 y143 y144 y145 y146 y147 y148 y149 y150 y151 y152 y153 y154 y155 y156 y157 y158 y159 y160 y161 y162 y163 y164 y165 y166 y167 y168 y169 y170 y171 y172 y173 y174 y175 y176 y177 y178 y179 y180 y181 y182 y183 y184 y185 y186 y187 y188 y189 y190 y191 y192 y193 y194 y195 y196 y197 y198 y199 y200 y201 y202 y203 y204 y205 y206 y207 y208 y209 y210 y211 y212 y213 y214 y215 y216 y217 y218 y219 y220 y221 y222 y223 y224 y225 y226 y227 y228 y229 y230 y231 y232 y233 y234 y235 y236 : Value) => bd_T7 C (hV.trans (h2.mono hV.size)) hnf hsm hka ho y0 y4 y5 y6 y8 y9 y10 y11 y12 y13 y14 y15 y16 y17 y18 y19 y20 y21 y22 y23 y24 y25 y26 y27 y28 y29 y30 y31 y32 y33 y34 y35 y36 y37 y38 y39 y40 y41 y42 y43 y44 y45 y46 y47 y48 y49 y50 y51 y52 y53 y54 y55 y56 y57 y58 y59 y60 y61 y62 y63 y64 y65 y66 y67 y68 y69 y70 y71 y72 y73 y74 y75 y76 y77 y78 y79 y80 y81 y82 y83 y84 y85 y86 y87 y88 y89 y90 y91 y92 y93 y94 y95 y96 y97 y98 y99 y100 y101 y102 y103 y104 y105 y106 y107 y108 y109 y110 y111 y112 y113 y114 y115 y116 y117 y118 y119 y120 y121 y122 y123 y124 y125 y126 y127 y128 y129 y130 y131 y132 y133 y134 y135 y136 y137 y138 y139 y140 y141 y142 y143 y144 y145 y146 y147 y148 y149 y150 y151 y152 y153 y154 y155 y156 y157 y158 y159 y160 y161 y162 y163 y164 y165 y166 y167 y168 y169 y170 y171 y172 y173 y174 y175 y176 y177 y178 y179 y180 y181 y182 y183 y184 y185 y186 y187 y188 y189 y190 y191 y192 y193 y194 y195 y196 y197 y198 y199 y200 y201 y202 y203 y204 y205 y206 y207 y208 y209 y210 y211 y212 y213 y214 y215 y216 y217 y218 y219 y220 y221 y222 y223 y224 y225 y226 y227 y228 y229 y230 y231 y232 y233 y234 y235 y236
 suffices hs : ∀ K : Act → World → Prop, (∀ a w2, bdT7.wp Tryz.prog (bodyPost Tryz.prog Tryz.f44 (IntBelow out w)) a w2 → K a w2) → bdC5.wp Tryz.prog (Exit.then K (bodyPost Tryz.prog Tryz.f44 (IntBelow out w))) { tmps := #[u0, .int .i64 (nf : Int), .slice A2 l.length c2, .pointer (some ⟨X3, 0, none⟩), u4, u5, u6, .pointer (some ⟨X7, 0, none⟩), u8, u9, u10, u11, u12, u13, u14, u15, u16, u17, u18, u19, u20, u21, u22, u23, u24, u25, u26, u27, u28, u29, u30, u31, u32, u33, u34, u35, u36, u37, u38, u39, u40, u41, u42, u43, u44, u45, u46, u47, u48, u49, u50, u51, u52, u53, u54, u55, u56, u57, u58, u59, u60, u61, u62, u63, u64, u65, u66, u67, u68, u69, u70, u71, u72, u73, u74, u75, u76, u77, u78, u79, u80, u81, u82, u83, u84, u85, u86, u87, u88, u89, u90, u91, u92, u93, u94, u95, u96, u97, u98, u99, u100, u101, u102, u103, u104, u105, u106, u107, u108, u109, u110, u111, u112, u113, u114, u115, u116, u117, u118, u119, u120, u121, u122, u123, u124, u125, u126, u127, u128, u129, u130, u131, u132, u133, u134, u135, u136, u137, u138, u139, u140, u141, u142, u143, u144, u145, u146, u147, u148, u149, u150, u151, u152, u153, u154, u155, u156, u157, u158, u159, u160, u161, u162, u163, u164, u165, u166, u167, u168, u169, u170, u171, u172, u173, u174, u175, u176, u177, u178, u179, u180, u181, u182, u183, u184, u185, u186, u187, u188, u189, u190, u191, u192, u193, u194, u195, u196, u197, u198, u199, u200, u201, u202, u203, u204, u205, u206, u207, u208, u209, u210, u211, u212, u213, u214, u215, u216, u217, u218, u219, u220, u221, u222, u223, u224, u225, u226, u227, u228, u229, u230, u231, u232, u233, u234, u235, u236], defers := [] } V from wp_seq (hs _ (fun _ _ h => h))
 intro K hK
 have HK := Lib.hid (fun (V2 : World) (h2 : Below V.heap.size V V2) (ho : out = (if k = 10 ∧ (groupV ks).all varB = false then 2 else (if ats.all atomB = false then 2 else (if k = 2 ∧ inB n 1 16 = false then 28 else (if countB x k n ats.length ks nb = false then 19 else (if k = 10 ∧ funsB nf ks = false then 2 else (if k = 8 ∧ risingB ks = false then 3 else (if ats.all (asksB (if k = 10 then l ++ groupV ks else l)) = false then 16 else 0)))))))) (y0 y4 y5 y6 y8 y9 y10 y11 y12 y13 y14 y15 y16 y17 y18 y19 y20 y21 y22 y23 y24 y25 y26 y27 y28 y29 y30 y31 y32 y33 y34 y35 y36 y37 y38 y39 y40 y41 y42 y43 y44 y45 y46 y47 y48 y49 y50 y51 y52 y53 y54 y55 y56 y57 y58 y59 y60 y61 y62 y63 y64 y65 y66 y67 y68 y69 y70 y71 y72 y73 y74 y75 y76 y77 y78 y79 y80 y81 y82 y83 y84 y85 y86 y87 y88 y89 y90 y91 y92 y93 y94 y95 y96 y97 y98 y99 y100 y101 y102 y103 y104 y105 y106 y107 y108 y109 y110 y111 y112 y113 y114 y115 y116 y117 y118 y119 y120 y121 y122 y123 y124 y125 y126 y127 y128 y129 y130 y131 y132 y133 y134 y135 y136 y137 y138 y139 y140 y141 y142 y143 y144 y145 y146 y147 y148 y149 y150 y151 y152 y153 y154 y155 y156 y157 y158 y159 y160 y161 y162 y163 y164 y165 y166 y167 y168 y169 y170 y171 y172 y173 y174 y175 y176 y177 y178 y179 y180 y181 y182 y183 y184 y185 y186 y187 y188 y189 y190 y191 y192 y193 y194 y195 y196 y197 y198 y199 y200 y201 y202 y203 y204 y205 y206 y207 y208 y209 y210 y211 y212 y213 y214 y215 y216 y217 y218 y219 y220 y221 y222 y223 y224 y225 y226 y227 y228 y229 y230 y231 y232 y233 y234 y235 y236 : Value) => hK _ _ (hnext V2 h2 ho y0 y4 y5 y6 y8 y9 y10 y11 y12 y13 y14 y15 y16 y17 y18 y19 y20 y21 y22 y23 y24 y25 y26 y27 y28 y29 y30 y31 y32 y33 y34 y35 y36 y37 y38 y39 y40 y41 y42 y43 y44 y45 y46 y47 y48 y49 y50 y51 y52 y53 y54 y55 y56 y57 y58 y59 y60 y61 y62 y63 y64 y65 y66 y67 y68 y69 y70 y71 y72 y73 y74 y75 y76 y77 y78 y79 y80 y81 y82 y83 y84 y85 y86 y87 y88 y89 y90 y91 y92 y93 y94 y95 y96 y97 y98 y99 y100 y101 y102 y103 y104 y105 y106 y107 y108 y109 y110 y111 y112 y113 y114 y115 y116 y117 y118 y119 y120 y121 y122 y123 y124 y125 y126 y127 y128 y129 y130 y131 y132 y133 y134 y135 y136 y137 y138 y139 y140 y141 y142 y143 y144 y145 y146 y147 y148 y149 y150 y151 y152 y153 y154 y155 y156 y157 y158 y159 y160 y161 y162 y163 y164 y165 y166 y167 y168 y169 y170 y171 y172 y173 y174 y175 y176 y177 y178 y179 y180 y181 y182 y183 y184 y185 y186 y187 y188 y189 y190 y191 y192 y193 y194 y195 y196 y197 y198 y199 y200 y201 y202 y203 y204 y205 y206 y207 y208 y209 y210 y211 y212 y213 y214 y215 y216 y217 y218 y219 y220 y221 y222 y223 y224 y225 y226 y227 y228 y229 y230 y231 y232 y233 y234 y235 y236))
 have HO := Lib.hid hout
 have HB := Lib.hid (C.out_ hV)
 obtain ⟨q0, q1, q2, q3, q4⟩ := C.cells7 hV
 obtain ⟨p0, p1, p2, p3, p4, p5⟩ := C.cells3 hV
 have HV := Lib.hid (isVar_any x V)
 have HN := Lib.hid (rnumber_any hnf k n Aa Ak Al ats.length ca ks.length ck nb cb V)
 clear C hV hsm hka
 clear hnext hK hout
 obtain ⟨Q, hQ⟩ : ∃ Q, (bodyPost Tryz.prog Tryz.f44 (IntBelow out w)) = Q := ⟨_, rfl⟩
 have HQ := Lib.hid hQ
 rw [hQ]
 clear hQ
 unfold bdC5 Tryz.f44
 dsimp only
 cases hv : varB x
 · have HF := Lib.hid (show out = 2 from HO.out.trans (by rw [if_pos (.inl hv)]))
   rw [hv] at HV
   clear HO hv
   go_wp2_with (go_at_call 26; refine HV.out.mono ?_; rintro en w' ⟨rfl, rfl⟩; dsimp only)
   rw [← HQ.out]
   go_ret
   exact ⟨ret_int HF.out.symm, HB.out⟩
 · rw [hv] at HV
   cases hn : nB nf k n
   · have HF := Lib.hid (show out = 2 from HO.out.trans (by rw [if_pos (.inr hn)]))
     rw [hn] at HN
     clear HO hv hn
     go_wp2_with (first
      | (go_at_call 26; refine HV.out.mono ?_; rintro en w' ⟨rfl, rfl⟩; dsimp only)
      | (go_at_call 66; refine HN.out.mono ?_; rintro en w2 ⟨rfl, hb2⟩; dsimp only))
     rw [← HQ.out]
     go_ret
     exact ⟨ret_int HF.out.symm, HB.out.trans (hb2.mono HB.out.size)⟩
   · have HF := Lib.hid (show out = (if k = 10 ∧ (groupV ks).all varB = false then 2 else (if ats.all atomB = false then 2 else (if k = 2 ∧ inB n 1 16 = false then 28 else (if countB x k n ats.length ks nb = false then 19 else (if k = 10 ∧ funsB nf ks = false then 2 else (if k = 8 ∧ risingB ks = false then 3 else (if ats.all (asksB (if k = 10 then l ++ groupV ks else l)) = false then 16 else 0))))))) from HO.out.trans (by rw [if_neg (fun h => by rw [hv, hn] at h; rcases h with h | h <;> cases h)]))
     rw [hn] at HN
     clear HO hv hn
     go_wp2_with (first
      | (go_at_call 26; refine HV.out.mono ?_; rintro en w' ⟨rfl, rfl⟩; dsimp only)
      | (go_at_call 66; refine HN.out.mono ?_; rintro en w2 ⟨rfl, hb2⟩; dsimp only))
     exact HK.out _ hb2 HF.out _ _ _ _ _ _ _ _ _ _ _ _ _ _ _ _ _ _ _ _ _ _ _ _ _ _ _ _ _ _ _ _ _ _ _ _ _ _ _ _ _ _ _ _ _ _ _ _ _ _ _ _ _ _ _ _ _ _ _ _ _ _ _ _ _ _ _ _ _ _ _ _ _ _ _ _ _ _ _ _ _ _ _ _ _ _ _ _ _ _ _ _ _ _ _ _ _ _ _ _ _ _ _ _ _ _ _ _ _ _ _ _ _ _ _ _ _ _ _ _ _ _ _ _ _ _ _ _ _ _ _ _ _ _ _ _ _ _ _ _ _ _ _ _ _ _ _ _ _ _ _ _ _ _ _ _ _ _ _ _ _ _ _ _ _ _ _ _ _ _ _ _ _ _ _ _ _ _ _ _ _ _ _ _ _ _ _ _ _ _ _ _ _ _ _ _ _ _ _ _ _ _ _ _ _ _ _ _ _ _ _ _ _ _ _ _ _ _ _ _ _ _ _ _ _ _ _ _ _ _ _ _ _
theorem bd_T3 (C : BCtx w W1 X3 X7 x k n Aa Ak Al A2 ats ks ca ck nb cb c2 l) (hV : Below W1.heap.size W1 V) (hnf : nf ≤ 1000000) (hsm : (l.length + ks.length) * 8 ≤ 140737488351232) {b1 b2 b3 b4 : Bool} (hb1 : hasA k = b1) (hb2 : hasN k = b2) (hb3 : hasK k = b3) (hb4 : hasB k = b4) (hout : out = (if bareB k n ats.length ks.length nb = false then 29 else (if varB x = false ∨ nB nf k n = false then 2 else (if k = 10 ∧ (groupV ks).all varB = false then 2 else (if ats.all atomB = false then 2 else (if k = 2 ∧ inB n 1 16 = false then 28 else (if countB x k n ats.length ks nb = false then 19 else (if k = 10 ∧ funsB nf ks = false then 2 else (if k = 8 ∧ risingB ks = false then 3 else (if ats.all (asksB (if k = 10 then l ++ groupV ks else l)) = false then 16 else 0)))))))))) (u0 u4 u5 u6 u13 u14 u15 u16 u17 u18 u19 u20 u21 u22 u23 u24 u25 u26 u27 u28 u29 u30 u31 u32 u33 u34 u35 u36 u37 u38 u39 u40 u41 u42 u43 u44 u45 u46 u47 u48 u49 u50 u51 u52 u53 u54 u55 u56 u57 u58 u59 u60 u61 u62 u63 u64 u65 u66 u67 u68 u69 u70 u71 u72 u73 u74 u75 u76 u77 u78 u79 u80 u81 u82 u83 u84 u85 u86 u87 u88 u89 u90 u91 u92 u93 u94 u95 u96 u97 u98 u99 u100 u101 u102 u103 u104 u105 u106 u107 u108 u109 u110 u111 u112 u113 u114 u115 u116 u117 u118 u119 u120 u121 u122 u123 u124 u125 u126 u127 u128 u129 u130 u131 u132 u133 u134 u135 u136 u137 u138 u139 u140 u141 u142 u143 u144 u145 u146 u147 u148 u149 u150 u151 u152 u153 u154 u155 u156 u157 u158 u159 u160 u161 u162 u163 u164 u165 u166 u167 u168 u169 u170 u171 u172 u173 u174 u175 u176 u177 u178 u179 u180 u181 u182 u183 u184 u185 u186 u187 u188 u189 u190 u191 u192 u193 u194 u195 u196 u197 u198 u199 u200 u201 u202 u203 u204 u205 u206 u207 u208 u209 u210 u211 u212 u213 u214 u215 u216 u217 u218 u219 u220 u221 u222 u223 u224 u225 u226 u227 u228 u229 u230 u231 u232 u233 u234 u235 u236 : Value) :
 bdT3.wp Tryz.prog (bodyPost Tryz.prog Tryz.f44 (IntBelow out w)) { tmps := #[u0, .int .i64 (nf : Int), .slice A2 l.length c2, .pointer (some ⟨X3, 0, none⟩), u4, u5, u6, .pointer (some ⟨X7, 0, none⟩), .bool b2, .bool b1, .bool b3, .bool b4, .bool b1, u13, u14, u15, u16, u17, u18, u19, u20, u21, u22, u23, u24, u25, u26, u27, u28, u29, u30, u31, u32, u33, u34, u35, u36, u37, u38, u39, u40, u41, u42, u43, u44, u45, u46, u47, u48, u49, u50, u51, u52, u53, u54, u55, u56, u57, u58, u59, u60, u61, u62, u63, u64, u65, u66, u67, u68, u69, u70, u71, u72, u73, u74, u75, u76, u77, u78, u79, u80, u81, u82, u83, u84, u85, u86, u87, u88, u89, u90, u91, u92, u93, u94, u95, u96, u97, u98, u99, u100, u101, u102, u103, u104, u105, u106, u107, u108, u109, u110, u111, u112, u113, u114, u115, u116, u117, u118, u119, u120, u121, u122, u123, u124, u125, u126, u127, u128, u129, u130, u131, u132, u133, u134, u135, u136, u137, u138, u139, u140, u141, u142, u143, u144, u145, u146, u147, u148, u149, u150, u151, u152, u153, u154, u155, u156, u157, u158, u159, u160, u161, u162, u163, u164, u165, u166, u167, u168, u169, u170, u171, u172, u173, u174, u175, u176, u177, u178, u179, u180, u181, u182, u183, u184, u185, u186, u187, u188, u189, u190, u191, u192, u193, u194, u195, u196, u197, u198, u199, u200, u201, u202, u203, u204, u205, u206, u207, u208, u209, u210, u211, u212, u213, u214, u215, u216, u217, u218, u219, u220, u221, u222, u223, u224, u225, u226, u227, u228, u229, u230, u231, u232, u233, u234, u235, u236], defers := [] } V := by
 have hnext := fun (hka : b1 = true) (ho : out = (if varB x = false ∨ nB nf k n = false then 2 else (if k = 10 ∧ (groupV ks).all varB = false then 2 else (if ats.all atomB = false then 2 else (if k = 2 ∧ inB n 1 16 = false then 28 else (if countB x k n ats.length ks nb = false then 19 else (if k = 10 ∧ funsB nf ks = false then 2 else (if k = 8 ∧ risingB ks = false then 3 else (if ats.all (asksB (if k = 10 then l ++ groupV ks else l)) = false then 16 else 0))))))))) (y0 y4 y5 y6 y8 y9 y10 y11 y12 y13 y14 y15 y16 y17 y18 y19 y20 y21 y22 y23 y24 y25 y26 y27 y28 y29 y30 y31 y32 y33 y34 y35 y36 y37 y38 y39 y40 y41 y42 y43 y44 y45 y46 y47 y48 y49 y50 y51 y52 y53 y54 y55 y56 y57 y58 y59 y60 y61 y62 y63 y64 y65 y66 y67 y68 y69 y70 y71 y72 y73 y74 y75 y76 y77 y78 y79 y80 y81 y82 y83 y84 y85 y86 y87 y88 y89 y90 y91 y92 y93 y94 y95 y96 y97 y98 y99 y100 y101 y102 y103 y104 y105 y106 y107 y108 y109 y110 y111 y112 y113 y114 y115 y116 y117 y118 y119 y120 y121 y122 y123 y124 y125 y126 y127 y128 y129 y130 y131 y132 y133 y134 y135 y136 y137 y138 y139 y140 y141 y142 y143 y144 y145 y146 y147 y148 y149 y150 y151 y152 y153 y154 y155 y156 y157 y158 y159 y160 y161 y162 y163 y164 y165 y166 y167 y168 y169 y170 y171 y172 y173 y174 y175 y176 y177 y178 y179 y180 y181 y182 y183 y184 y185 y186 y187 y188 y189 y190 y191 y192 y193 y194 y195 y196 y197 y198 y199 y200 y201 y202 y203 y204 y205 y206 y207 y208 y209 y210 y211 y212 y213 y214 y215 y216 y217 y218 y219 y220 y221 y222 y223 y224 y225 y226 y227 y228 y229 y230 y231 y232 y233 y234 y235 y236 : Value) => bd_T5 C hV hnf hsm (hb1.trans hka) ho y0 y4 y5 y6 y8 y9 y10 y11 y12 y13 y14 y15 y16 y17 y18 y19 y20 y21 y22 y23 y24 y25 y26 y27 y28 y29 y30 y31 y32 y33 y34 y35 y36 y37 y38 y39 y40 y41 y42 y43 y44 y45 y46 y47 y48 y49 y50 y51 y52 y53 y54 y55 y56 y57 y58 y59 y60 y61 y62 y63 y64 y65 y66 y67 y68 y69 y70 y71 y72 y73 y74 y75 y76 y77 y78 y79 y80 y81 y82 y83 y84 y85 y86 y87 y88 y89 y90 y91 y92 y93 y94 y95 y96 y97 y98 y99 y100 y101 y102 y103 y104 y105 y106 y107 y108 y109 y110 y111 y112 y113 y114 y115 y116 y117 y118 y119 y120 y121 y122 y123 y124 y125 y126 y127 y128 y129 y130 y131 y132 y133 y134 y135 y136 y137 y138 y139 y140 y141 y142 y143 y144 y145 y146 y147 y148 y149 y150 y151 y152 y153 y154 y155 y156 y157 y158 y159 y160 y161 y162 y163 y164 y165 y166 y167 y168 y169 y170 y171 y172 y173 y174 y175 y176 y177 y178 y179 y180 y181 y182 y183 y184 y185 y186 y187 y188 y189 y190 y191 y192 y193 y194 y195 y196 y197 y198 y199 y200 y201 y202 y203 y204 y205 y206 y207 y208 y209 y210 y211 y212 y213 y214 y215 y216 y217 y218 y219 y220 y221 y222 y223 y224 y225 y226 y227 y228 y229 y230 y231 y232 y233 y234 y235 y236
 suffices hs : ∀ K : Act → World → Prop, (∀ a w2, bdT5.wp Tryz.prog (bodyPost Tryz.prog Tryz.f44 (IntBelow out w)) a w2 → K a w2) → bdC3.wp Tryz.prog (Exit.then K (bodyPost Tryz.prog Tryz.f44 (IntBelow out w))) { tmps := #[u0, .int .i64 (nf : Int), .slice A2 l.length c2, .pointer (some ⟨X3, 0, none⟩), u4, u5, u6, .pointer (some ⟨X7, 0, none⟩), .bool b2, .bool b1, .bool b3, .bool b4, .bool b1, u13, u14, u15, u16, u17, u18, u19, u20, u21, u22, u23, u24, u25, u26, u27, u28, u29, u30, u31, u32, u33, u34, u35, u36, u37, u38, u39, u40, u41, u42, u43, u44, u45, u46, u47, u48, u49, u50, u51, u52, u53, u54, u55, u56, u57, u58, u59, u60, u61, u62, u63, u64, u65, u66, u67, u68, u69, u70, u71, u72, u73, u74, u75, u76, u77, u78, u79, u80, u81, u82, u83, u84, u85, u86, u87, u88, u89, u90, u91, u92, u93, u94, u95, u96, u97, u98, u99, u100, u101, u102, u103, u104, u105, u106, u107, u108, u109, u110, u111, u112, u113, u114, u115, u116, u117, u118, u119, u120, u121, u122, u123, u124, u125, u126, u127, u128, u129, u130, u131, u132, u133, u134, u135, u136, u137, u138, u139, u140, u141, u142, u143, u144, u145, u146, u147, u148, u149, u150, u151, u152, u153, u154, u155, u156, u157, u158, u159, u160, u161, u162, u163, u164, u165, u166, u167, u168, u169, u170, u171, u172, u173, u174, u175, u176, u177, u178, u179, u180, u181, u182, u183, u184, u185, u186, u187, u188, u189, u190, u191, u192, u193, u194, u195, u196, u197, u198, u199, u200, u201, u202, u203, u204, u205, u206, u207, u208, u209, u210, u211, u212, u213, u214, u215, u216, u217, u218, u219, u220, u221, u222, u223, u224, u225, u226, u227, u228, u229, u230, u231, u232, u233, u234, u235, u236], defers := [] } V from wp_seq (hs _ (fun _ _ h => h))
 intro K hK
 have HK := Lib.hid (fun (hka : b1 = true) (ho : out = (if varB x = false ∨ nB nf k n = false then 2 else (if k = 10 ∧ (groupV ks).all varB = false then 2 else (if ats.all atomB = false then 2 else (if k = 2 ∧ inB n 1 16 = false then 28 else (if countB x k n ats.length ks nb = false then 19 else (if k = 10 ∧ funsB nf ks = false then 2 else (if k = 8 ∧ risingB ks = false then 3 else (if ats.all (asksB (if k = 10 then l ++ groupV ks else l)) = false then 16 else 0))))))))) (y0 y4 y5 y6 y8 y9 y10 y11 y12 y13 y14 y15 y16 y17 y18 y19 y20 y21 y22 y23 y24 y25 y26 y27 y28 y29 y30 y31 y32 y33 y34 y35 y36 y37 y38 y39 y40 y41 y42 y43 y44 y45 y46 y47 y48 y49 y50 y51 y52 y53 y54 y55 y56 y57 y58 y59 y60 y61 y62 y63 y64 y65 y66 y67 y68 y69 y70 y71 y72 y73 y74 y75 y76 y77 y78 y79 y80 y81 y82 y83 y84 y85 y86 y87 y88 y89 y90 y91 y92 y93 y94 y95 y96 y97 y98 y99 y100 y101 y102 y103 y104 y105 y106 y107 y108 y109 y110 y111 y112 y113 y114 y115 y116 y117 y118 y119 y120 y121 y122 y123 y124 y125 y126 y127 y128 y129 y130 y131 y132 y133 y134 y135 y136 y137 y138 y139 y140 y141 y142 y143 y144 y145 y146 y147 y148 y149 y150 y151 y152 y153 y154 y155 y156 y157 y158 y159 y160 y161 y162 y163 y164 y165 y166 y167 y168 y169 y170 y171 y172 y173 y174 y175 y176 y177 y178 y179 y180 y181 y182 y183 y184 y185 y186 y187 y188 y189 y190 y191 y192 y193 y194 y195 y196 y197 y198 y199 y200 y201 y202 y203 y204 y205 y206 y207 y208 y209 y210 y211 y212 y213 y214 y215 y216 y217 y218 y219 y220 y221 y222 y223 y224 y225 y226 y227 y228 y229 y230 y231 y232 y233 y234 y235 y236 : Value) => hK _ _ (hnext hka ho y0 y4 y5 y6 y8 y9 y10 y11 y12 y13 y14 y15 y16 y17 y18 y19 y20 y21 y22 y23 y24 y25 y26 y27 y28 y29 y30 y31 y32 y33 y34 y35 y36 y37 y38 y39 y40 y41 y42 y43 y44 y45 y46 y47 y48 y49 y50 y51 y52 y53 y54 y55 y56 y57 y58 y59 y60 y61 y62 y63 y64 y65 y66 y67 y68 y69 y70 y71 y72 y73 y74 y75 y76 y77 y78 y79 y80 y81 y82 y83 y84 y85 y86 y87 y88 y89 y90 y91 y92 y93 y94 y95 y96 y97 y98 y99 y100 y101 y102 y103 y104 y105 y106 y107 y108 y109 y110 y111 y112 y113 y114 y115 y116 y117 y118 y119 y120 y121 y122 y123 y124 y125 y126 y127 y128 y129 y130 y131 y132 y133 y134 y135 y136 y137 y138 y139 y140 y141 y142 y143 y144 y145 y146 y147 y148 y149 y150 y151 y152 y153 y154 y155 y156 y157 y158 y159 y160 y161 y162 y163 y164 y165 y166 y167 y168 y169 y170 y171 y172 y173 y174 y175 y176 y177 y178 y179 y180 y181 y182 y183 y184 y185 y186 y187 y188 y189 y190 y191 y192 y193 y194 y195 y196 y197 y198 y199 y200 y201 y202 y203 y204 y205 y206 y207 y208 y209 y210 y211 y212 y213 y214 y215 y216 y217 y218 y219 y220 y221 y222 y223 y224 y225 y226 y227 y228 y229 y230 y231 y232 y233 y234 y235 y236))
 have x1 : ((ats.length : Int) == 0) = (ats.length == 0) := by rw [Bool.eq_iff_iff]; simp
 have x2 : ((ks.length : Int) == 0) = (ks.length == 0) := by rw [Bool.eq_iff_iff]; simp
 have x3 : ((nb : Int) == 0) = (nb == 0) := by rw [Bool.eq_iff_iff]; simp
 have hbare : bareB k n ats.length ks.length nb = (b1 && (b2 || n == 0) && (b1 || ats.length == 0) && (b3 || ks.length == 0) && (b4 || nb == 0)) := by
  unfold bareB; rw [hb1, hb2, hb3, hb4]
 have HO := Lib.hid (show out = (if (b1 && (b2 || n == 0) && (b1 || ats.length == 0) && (b3 || ks.length == 0) && (b4 || nb == 0)) = false then 29 else (if varB x = false ∨ nB nf k n = false then 2 else (if k = 10 ∧ (groupV ks).all varB = false then 2 else (if ats.all atomB = false then 2 else (if k = 2 ∧ inB n 1 16 = false then 28 else (if countB x k n ats.length ks nb = false then 19 else (if k = 10 ∧ funsB nf ks = false then 2 else (if k = 8 ∧ risingB ks = false then 3 else (if ats.all (asksB (if k = 10 then l ++ groupV ks else l)) = false then 16 else 0))))))))) from hbare ▸ hout)
 have HB := Lib.hid (C.out_ hV)
 have hc := has_combo k
 rw [hb1, hb2, hb3, hb4] at hc
 obtain ⟨q0, q1, q2, q3, q4⟩ := C.cells7 hV
 clear hnext hK hout hbare C hV hsm hb1 hb2 hb3 hb4 x1 x2 x3
 obtain ⟨Q, hQ⟩ : ∃ Q, (bodyPost Tryz.prog Tryz.f44 (IntBelow out w)) = Q := ⟨_, rfl⟩
 have HQ := Lib.hid hQ
 rw [hQ]
 clear hQ
 unfold bdC3 Tryz.f44
 dsimp only
 rcases hc with rfl | ⟨rfl, ⟨rfl, rfl, rfl⟩ | ⟨rfl, rfl, rfl⟩ | ⟨rfl, rfl, rfl⟩ | ⟨rfl, rfl, rfl⟩⟩
 · have HF := Lib.hid (show out = 29 from HO.out.trans (by simp))
   clear HO
   go_wp2_with fail
   rw [← HQ.out]
   go_ret
   exact ⟨ret_int HF.out.symm, HB.out⟩
 · by_cases e1 : n = 0
   · have e1t : (n != 0) = false := by simpa using e1
     have E1 := Lib.hid e1
     clear e1
     · by_cases e2 : ks.length = 0
       · have e2t : decide ((0 : Int) < (ks.length : Int)) = false := by simp only [decide_eq_false_iff_not]; omega
         have e2tn : decide (0 < ks.length) = false := by simp only [decide_eq_false_iff_not]; omega
         have E2 := Lib.hid e2
         clear e2
         · by_cases e3 : nb = 0
           · have e3t : decide ((0 : Int) < (nb : Int)) = false := by simp only [decide_eq_false_iff_not]; omega
             have e3tn : decide (0 < nb) = false := by simp only [decide_eq_false_iff_not]; omega
             have E3 := Lib.hid e3
             clear e3
             · have HF := Lib.hid (show out = (if varB x = false ∨ nB nf k n = false then 2 else (if k = 10 ∧ (groupV ks).all varB = false then 2 else (if ats.all atomB = false then 2 else (if k = 2 ∧ inB n 1 16 = false then 28 else (if countB x k n ats.length ks nb = false then 19 else (if k = 10 ∧ funsB nf ks = false then 2 else (if k = 8 ∧ risingB ks = false then 3 else (if ats.all (asksB (if k = 10 then l ++ groupV ks else l)) = false then 16 else 0)))))))) from HO.out.trans (by simp [E1.out, E2.out, E3.out]))
               clear HO
               go_wp2_with fail
               exact HK.out rfl HF.out _ _ _ _ _ _ _ _ _ _ _ _ _ _ _ _ _ _ _ _ _ _ _ _ _ _ _ _ _ _ _ _ _ _ _ _ _ _ _ _ _ _ _ _ _ _ _ _ _ _ _ _ _ _ _ _ _ _ _ _ _ _ _ _ _ _ _ _ _ _ _ _ _ _ _ _ _ _ _ _ _ _ _ _ _ _ _ _ _ _ _ _ _ _ _ _ _ _ _ _ _ _ _ _ _ _ _ _ _ _ _ _ _ _ _ _ _ _ _ _ _ _ _ _ _ _ _ _ _ _ _ _ _ _ _ _ _ _ _ _ _ _ _ _ _ _ _ _ _ _ _ _ _ _ _ _ _ _ _ _ _ _ _ _ _ _ _ _ _ _ _ _ _ _ _ _ _ _ _ _ _ _ _ _ _ _ _ _ _ _ _ _ _ _ _ _ _ _ _ _ _ _ _ _ _ _ _ _ _ _ _ _ _ _ _ _ _ _ _ _ _ _ _ _ _ _ _ _ _ _ _ _ _
           · have e3f : decide ((0 : Int) < (nb : Int)) = true := by simp only [decide_eq_true_eq]; omega
             have e3fn : decide (0 < nb) = true := by simp only [decide_eq_true_eq]; omega
             have HF := Lib.hid (show out = 29 from HO.out.trans (by simp [E1.out, E2.out, e3]))
             clear e3
             clear HO
             go_wp2_with fail
             rw [← HQ.out]
             go_ret
             exact ⟨ret_int HF.out.symm, HB.out⟩
       · have e2f : decide ((0 : Int) < (ks.length : Int)) = true := by simp only [decide_eq_true_eq]; omega
         have e2fn : decide (0 < ks.length) = true := by simp only [decide_eq_true_eq]; omega
         have HF := Lib.hid (show out = 29 from HO.out.trans (by simp [E1.out, e2]))
         clear e2
         clear HO
         go_wp2_with fail
         rw [← HQ.out]
         go_ret
         exact ⟨ret_int HF.out.symm, HB.out⟩
   · have e1f : (n != 0) = true := by simpa using e1
     have HF := Lib.hid (show out = 29 from HO.out.trans (by simp [e1]))
     clear e1
     clear HO
     go_wp2_with fail
     rw [← HQ.out]
     go_ret
     exact ⟨ret_int HF.out.symm, HB.out⟩
 · by_cases e2 : ks.length = 0
   · have e2t : decide ((0 : Int) < (ks.length : Int)) = false := by simp only [decide_eq_false_iff_not]; omega
     have e2tn : decide (0 < ks.length) = false := by simp only [decide_eq_false_iff_not]; omega
     have E2 := Lib.hid e2
     clear e2
     · by_cases e3 : nb = 0
       · have e3t : decide ((0 : Int) < (nb : Int)) = false := by simp only [decide_eq_false_iff_not]; omega
         have e3tn : decide (0 < nb) = false := by simp only [decide_eq_false_iff_not]; omega
         have E3 := Lib.hid e3
         clear e3
         · have HF := Lib.hid (show out = (if varB x = false ∨ nB nf k n = false then 2 else (if k = 10 ∧ (groupV ks).all varB = false then 2 else (if ats.all atomB = false then 2 else (if k = 2 ∧ inB n 1 16 = false then 28 else (if countB x k n ats.length ks nb = false then 19 else (if k = 10 ∧ funsB nf ks = false then 2 else (if k = 8 ∧ risingB ks = false then 3 else (if ats.all (asksB (if k = 10 then l ++ groupV ks else l)) = false then 16 else 0)))))))) from HO.out.trans (by simp [E2.out, E3.out]))
           clear HO
           go_wp2_with fail
           exact HK.out rfl HF.out _ _ _ _ _ _ _ _ _ _ _ _ _ _ _ _ _ _ _ _ _ _ _ _ _ _ _ _ _ _ _ _ _ _ _ _ _ _ _ _ _ _ _ _ _ _ _ _ _ _ _ _ _ _ _ _ _ _ _ _ _ _ _ _ _ _ _ _ _ _ _ _ _ _ _ _ _ _ _ _ _ _ _ _ _ _ _ _ _ _ _ _ _ _ _ _ _ _ _ _ _ _ _ _ _ _ _ _ _ _ _ _ _ _ _ _ _ _ _ _ _ _ _ _ _ _ _ _ _ _ _ _ _ _ _ _ _ _ _ _ _ _ _ _ _ _ _ _ _ _ _ _ _ _ _ _ _ _ _ _ _ _ _ _ _ _ _ _ _ _ _ _ _ _ _ _ _ _ _ _ _ _ _ _ _ _ _ _ _ _ _ _ _ _ _ _ _ _ _ _ _ _ _ _ _ _ _ _ _ _ _ _ _ _ _ _ _ _ _ _ _ _ _ _ _ _ _ _ _ _ _ _ _
       · have e3f : decide ((0 : Int) < (nb : Int)) = true := by simp only [decide_eq_true_eq]; omega
         have e3fn : decide (0 < nb) = true := by simp only [decide_eq_true_eq]; omega
         have HF := Lib.hid (show out = 29 from HO.out.trans (by simp [E2.out, e3]))
         clear e3
         clear HO
         go_wp2_with fail
         rw [← HQ.out]
         go_ret
         exact ⟨ret_int HF.out.symm, HB.out⟩
   · have e2f : decide ((0 : Int) < (ks.length : Int)) = true := by simp only [decide_eq_true_eq]; omega
     have e2fn : decide (0 < ks.length) = true := by simp only [decide_eq_true_eq]; omega
     have HF := Lib.hid (show out = 29 from HO.out.trans (by simp [e2]))
     clear e2
     clear HO
     go_wp2_with fail
     rw [← HQ.out]
     go_ret
     exact ⟨ret_int HF.out.symm, HB.out⟩
 · by_cases e1 : n = 0
   · have e1t : (n != 0) = false := by simpa using e1
     have E1 := Lib.hid e1
     clear e1
     · have HF := Lib.hid (show out = (if varB x = false ∨ nB nf k n = false then 2 else (if k = 10 ∧ (groupV ks).all varB = false then 2 else (if ats.all atomB = false then 2 else (if k = 2 ∧ inB n 1 16 = false then 28 else (if countB x k n ats.length ks nb = false then 19 else (if k = 10 ∧ funsB nf ks = false then 2 else (if k = 8 ∧ risingB ks = false then 3 else (if ats.all (asksB (if k = 10 then l ++ groupV ks else l)) = false then 16 else 0)))))))) from HO.out.trans (by simp [E1.out]))
       clear HO
       go_wp2_with fail
       exact HK.out rfl HF.out _ _ _ _ _ _ _ _ _ _ _ _ _ _ _ _ _ _ _ _ _ _ _ _ _ _ _ _ _ _ _ _ _ _ _ _ _ _ _ _ _ _ _ _ _ _ _ _ _ _ _ _ _ _ _ _ _ _ _ _ _ _ _ _ _ _ _ _ _ _ _ _ _ _ _ _ _ _ _ _ _ _ _ _ _ _ _ _ _ _ _ _ _ _ _ _ _ _ _ _ _ _ _ _ _ _ _ _ _ _ _ _ _ _ _ _ _ _ _ _ _ _ _ _ _ _ _ _ _ _ _ _ _ _ _ _ _ _ _ _ _ _ _ _ _ _ _ _ _ _ _ _ _ _ _ _ _ _ _ _ _ _ _ _ _ _ _ _ _ _ _ _ _ _ _ _ _ _ _ _ _ _ _ _ _ _ _ _ _ _ _ _ _ _ _ _ _ _ _ _ _ _ _ _ _ _ _ _ _ _ _ _ _ _ _ _ _ _ _ _ _ _ _ _ _ _ _ _ _ _ _ _ _
   · have e1f : (n != 0) = true := by simpa using e1
     have HF := Lib.hid (show out = 29 from HO.out.trans (by simp [e1]))
     clear e1
     clear HO
     go_wp2_with fail
     rw [← HQ.out]
     go_ret
     exact ⟨ret_int HF.out.symm, HB.out⟩
 · by_cases e1 : n = 0
   · have e1t : (n != 0) = false := by simpa using e1
     have E1 := Lib.hid e1
     clear e1
     · by_cases e3 : nb = 0
       · have e3t : decide ((0 : Int) < (nb : Int)) = false := by simp only [decide_eq_false_iff_not]; omega
         have e3tn : decide (0 < nb) = false := by simp only [decide_eq_false_iff_not]; omega
         have E3 := Lib.hid e3
         clear e3
         · have HF := Lib.hid (show out = (if varB x = false ∨ nB nf k n = false then 2 else (if k = 10 ∧ (groupV ks).all varB = false then 2 else (if ats.all atomB = false then 2 else (if k = 2 ∧ inB n 1 16 = false then 28 else (if countB x k n ats.length ks nb = false then 19 else (if k = 10 ∧ funsB nf ks = false then 2 else (if k = 8 ∧ risingB ks = false then 3 else (if ats.all (asksB (if k = 10 then l ++ groupV ks else l)) = false then 16 else 0)))))))) from HO.out.trans (by simp [E1.out, E3.out]))
           clear HO
           go_wp2_with fail
           exact HK.out rfl HF.out _ _ _ _ _ _ _ _ _ _ _ _ _ _ _ _ _ _ _ _ _ _ _ _ _ _ _ _ _ _ _ _ _ _ _ _ _ _ _ _ _ _ _ _ _ _ _ _ _ _ _ _ _ _ _ _ _ _ _ _ _ _ _ _ _ _ _ _ _ _ _ _ _ _ _ _ _ _ _ _ _ _ _ _ _ _ _ _ _ _ _ _ _ _ _ _ _ _ _ _ _ _ _ _ _ _ _ _ _ _ _ _ _ _ _ _ _ _ _ _ _ _ _ _ _ _ _ _ _ _ _ _ _ _ _ _ _ _ _ _ _ _ _ _ _ _ _ _ _ _ _ _ _ _ _ _ _ _ _ _ _ _ _ _ _ _ _ _ _ _ _ _ _ _ _ _ _ _ _ _ _ _ _ _ _ _ _ _ _ _ _ _ _ _ _ _ _ _ _ _ _ _ _ _ _ _ _ _ _ _ _ _ _ _ _ _ _ _ _ _ _ _ _ _ _ _ _ _ _ _ _ _ _
       · have e3f : decide ((0 : Int) < (nb : Int)) = true := by simp only [decide_eq_true_eq]; omega
         have e3fn : decide (0 < nb) = true := by simp only [decide_eq_true_eq]; omega
         have HF := Lib.hid (show out = 29 from HO.out.trans (by simp [E1.out, e3]))
         clear e3
         clear HO
         go_wp2_with fail
         rw [← HQ.out]
         go_ret
         exact ⟨ret_int HF.out.symm, HB.out⟩
   · have e1f : (n != 0) = true := by simpa using e1
     have HF := Lib.hid (show out = 29 from HO.out.trans (by simp [e1]))
     clear e1
     clear HO
     go_wp2_with fail
     rw [← HQ.out]
     go_ret
     exact ⟨ret_int HF.out.symm, HB.out⟩
end
end Go.Proofs.YtnobggabjpcbfaaGreat
