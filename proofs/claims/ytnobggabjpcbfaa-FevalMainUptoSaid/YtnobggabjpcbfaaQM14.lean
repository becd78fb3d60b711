/-
  5 texts of this seat in one: S6 S7 S8 S9 S10.
-/
import Derived.Test.YtnobggabjpcbfaaQM13
import Derived.Test.YtnobggabjpcbfaaQM5
/-
  camletref30.bind, whole.
-/
set_option linter.unusedVariables false
set_option linter.unusedSimpArgs false
namespace Go.Proofs.Ytnobggabjpcbfaa
open Go.RowKit Go.Maps

section
variable {w W1 : World} {X3 X7 : Nat} {x k n : Int} {Aa Ak Al A2 : Option Addr} {ats : List Atm} {ks : List Int} {ca ck nb cb c2 : Nat} {l : List Int} {out : Int} {V : World} {nf : Nat}
set_option maxRecDepth 100000 in
set_option maxHeartbeats 8000000 in
theorem bd_T5 (C : BCtx w W1 X3 X7 x k n Aa Ak Al A2 ats ks ca ck nb cb c2 l) (hV : Below W1.heap.size W1 V) (hnf : nf ≤ 1000000) (hsm : (l.length + ks.length) * 8 ≤ 140737488351232) (hka : hasA k = true) (hout : out = (if varB x = false ∨ nB nf k n = false then 2 else (if k = 10 ∧ (groupV ks).all varB = false then 2 else (if ats.all atomB = false then 2 else (if k = 2 ∧ inB n 1 16 = false then 28 else (if countB x k n ats.length ks nb = false then 19 else (if k = 10 ∧ funsB nf ks = false then 2 else (if k = 8 ∧ risingB ks = false then 3 else (if ats.all (asksB (if k = 10 then l ++ groupV ks else l)) = false then 16 else 0))))))))) (u0 u4 u5 u6 u8 u9 u10 u11 u12 u13 u14 u15 u16 u17 u18 u19 u20 u21 u22 u23 u24 u25 u26 u27 u28 u29 u30 u31 u32 u33 u34 u35 u36 u37 u38 u39 u40 u41 u42 u43 u44 u45 u46 u47 u48 u49 u50 u51 u52 u53 u54 u55 u56 u57 u58 u59 u60 u61 u62 u63 u64 u65 u66 u67 u68 u69 u70 u71 u72 u73 u74 u75 u76 u77 u78 u79 u80 u81 u82 u83 u84 u85 u86 u87 u88 u89 u90 u91 u92 u93 u94 u95 u96 u97 u98 u99 u100 u101 u102 u103 u104 u105 u106 u107 u108 u109 u110 u111 u112 u113 u114 u115 u116 u117 u118 u119 u120 u121 u122 u123 u124 u125 u126 u127 u128 u129 u130 u131 u132 u133 u134 u135 u136 u137 u138 u139 u140 u141 u142 u143 u144 u145 u146 u147 u148 u149 u150 u151 u152 u153 u154 u155 u156 u157 u158 u159 u160 u161 u162 u163 u164 u165 u166 u167 u168 u169 u170 u171 u172 u173 u174 u175 u176 u177 u178 u179 u180 u181 u182 u183 u184 u185 u186 u187 u188 u189 u190 u191 u192 u193 u194 u195 u196 u197 u198 u199 u200 u201 u202 u203 u204 u205 u206 u207 u208 u209 u210 u211 u212 u213 u214 u215 u216 u217 u218 u219 u220 u221 u222 u223 u224 u225 u226 u227 u228 u229 u230 u231 u232 u233 u234 u235 u236 : Value) :
    bdT5.wp Try.prog (bodyPost Try.prog Try.f39 (IntBelow out w)) { tmps := #[u0, .int .i64 (nf : Int), .slice A2 l.length c2, .pointer (some ⟨X3, 0, none⟩), u4, u5, u6, .pointer (some ⟨X7, 0, none⟩), u8, u9, u10, u11, u12, u13, u14, u15, u16, u17, u18, u19, u20, u21, u22, u23, u24, u25, u26, u27, u28, u29, u30, u31, u32, u33, u34, u35, u36, u37, u38, u39, u40, u41, u42, u43, u44, u45, u46, u47, u48, u49, u50, u51, u52, u53, u54, u55, u56, u57, u58, u59, u60, u61, u62, u63, u64, u65, u66, u67, u68, u69, u70, u71, u72, u73, u74, u75, u76, u77, u78, u79, u80, u81, u82, u83, u84, u85, u86, u87, u88, u89, u90, u91, u92, u93, u94, u95, u96, u97, u98, u99, u100, u101, u102, u103, u104, u105, u106, u107, u108, u109, u110, u111, u112, u113, u114, u115, u116, u117, u118, u119, u120, u121, u122, u123, u124, u125, u126, u127, u128, u129, u130, u131, u132, u133, u134, u135, u136, u137, u138, u139, u140, u141, u142, u143, u144, u145, u146, u147, u148, u149, u150, u151, u152, u153, u154, u155, u156, u157, u158, u159, u160, u161, u162, u163, u164, u165, u166, u167, u168, u169, u170, u171, u172, u173, u174, u175, u176, u177, u178, u179, u180, u181, u182, u183, u184, u185, u186, u187, u188, u189, u190, u191, u192, u193, u194, u195, u196, u197, u198, u199, u200, u201, u202, u203, u204, u205, u206, u207, u208, u209, u210, u211, u212, u213, u214, u215, u216, u217, u218, u219, u220, u221, u222, u223, u224, u225, u226, u227, u228, u229, u230, u231, u232, u233, u234, u235, u236], defers := [] } V := by
  have hnext := fun (V2 : World) (h2 : Below V.heap.size V V2) (ho : out = (if k = 10 ∧ (groupV ks).all varB = false then 2 else (if ats.all atomB = false then 2 else (if k = 2 ∧ inB n 1 16 = false then 28 else (if countB x k n ats.length ks nb = false then 19 else (if k = 10 ∧ funsB nf ks = false then 2 else (if k = 8 ∧ risingB ks = false then 3 else (if ats.all (asksB (if k = 10 then l ++ groupV ks else l)) = false then 16 else 0)))))))) (y0 y4 y5 y6 y8 y9 y10 y11 y12 y13 y14 y15 y16 y17 y18 y19 y20 y21 y22 y23 y24 y25 y26 y27 y28 y29 y30 y31 y32 y33 y34 y35 y36 y37 y38 y39 y40 y41 y42 y43 y44 y45 y46 y47 y48 y49 y50 y51 y52 y53 y54 y55 y56 y57 y58 y59 y60 y61 y62 y63 y64 y65 y66 y67 y68 y69 y70 y71 y72 y73 y74 y75 y76 y77 y78 y79 y80 y81 y82 y83 y84 y85 y86 y87 y88 y89 y90 y91 y92 y93 y94 y95 y96 y97 y98 y99 y100 y101 y102 y103 y104 y105 y106 y107 y108 y109 y110 y111 y112 y113 y114 y115 y116 y117 y118 y119 y120 y121 y122 y123 y124 y125 y126 y127 y128 y129 y130 y131 y132 y133 y134 y135 y136 y137 y138 y139 y140 y141 y142 y143 y144 y145 y146 y147 y148 y149 y150 y151 y152 y153 y154 y155 y156 y157 y158 y159 y160 y161 y162 y163 y164 y165 y166 y167 y168 y169 y170 y171 y172 y173 y174 y175 y176 y177 y178 y179 y180 y181 y182 y183 y184 y185 y186 y187 y188 y189 y190 y191 y192 y193 y194 y195 y196 y197 y198 y199 y200 y201 y202 y203 y204 y205 y206 y207 y208 y209 y210 y211 y212 y213 y214 y215 y216 y217 y218 y219 y220 y221 y222 y223 y224 y225 y226 y227 y228 y229 y230 y231 y232 y233 y234 y235 y236 : Value) => bd_T7 C (hV.trans (h2.mono hV.size)) hnf hsm hka ho y0 y4 y5 y6 y8 y9 y10 y11 y12 y13 y14 y15 y16 y17 y18 y19 y20 y21 y22 y23 y24 y25 y26 y27 y28 y29 y30 y31 y32 y33 y34 y35 y36 y37 y38 y39 y40 y41 y42 y43 y44 y45 y46 y47 y48 y49 y50 y51 y52 y53 y54 y55 y56 y57 y58 y59 y60 y61 y62 y63 y64 y65 y66 y67 y68 y69 y70 y71 y72 y73 y74 y75 y76 y77 y78 y79 y80 y81 y82 y83 y84 y85 y86 y87 y88 y89 y90 y91 y92 y93 y94 y95 y96 y97 y98 y99 y100 y101 y102 y103 y104 y105 y106 y107 y108 y109 y110 y111 y112 y113 y114 y115 y116 y117 y118 y119 y120 y121 y122 y123 y124 y125 y126 y127 y128 y129 y130 y131 y132 y133 y134 y135 y136 y137 y138 y139 y140 y141 y142 y143 y144 y145 y146 y147 y148 y149 y150 y151 y152 y153 y154 y155 y156 y157 y158 y159 y160 y161 y162 y163 y164 y165 y166 y167 y168 y169 y170 y171 y172 y173 y174 y175 y176 y177 y178 y179 y180 y181 y182 y183 y184 y185 y186 y187 y188 y189 y190 y191 y192 y193 y194 y195 y196 y197 y198 y199 y200 y201 y202 y203 y204 y205 y206 y207 y208 y209 y210 y211 y212 y213 y214 y215 y216 y217 y218 y219 y220 y221 y222 y223 y224 y225 y226 y227 y228 y229 y230 y231 y232 y233 y234 y235 y236
  suffices hs : ∀ K : Act → World → Prop, (∀ a w2, bdT7.wp Try.prog (bodyPost Try.prog Try.f39 (IntBelow out w)) a w2 → K a w2) → bdC5.wp Try.prog (Exit.then K (bodyPost Try.prog Try.f39 (IntBelow out w))) { tmps := #[u0, .int .i64 (nf : Int), .slice A2 l.length c2, .pointer (some ⟨X3, 0, none⟩), u4, u5, u6, .pointer (some ⟨X7, 0, none⟩), u8, u9, u10, u11, u12, u13, u14, u15, u16, u17, u18, u19, u20, u21, u22, u23, u24, u25, u26, u27, u28, u29, u30, u31, u32, u33, u34, u35, u36, u37, u38, u39, u40, u41, u42, u43, u44, u45, u46, u47, u48, u49, u50, u51, u52, u53, u54, u55, u56, u57, u58, u59, u60, u61, u62, u63, u64, u65, u66, u67, u68, u69, u70, u71, u72, u73, u74, u75, u76, u77, u78, u79, u80, u81, u82, u83, u84, u85, u86, u87, u88, u89, u90, u91, u92, u93, u94, u95, u96, u97, u98, u99, u100, u101, u102, u103, u104, u105, u106, u107, u108, u109, u110, u111, u112, u113, u114, u115, u116, u117, u118, u119, u120, u121, u122, u123, u124, u125, u126, u127, u128, u129, u130, u131, u132, u133, u134, u135, u136, u137, u138, u139, u140, u141, u142, u143, u144, u145, u146, u147, u148, u149, u150, u151, u152, u153, u154, u155, u156, u157, u158, u159, u160, u161, u162, u163, u164, u165, u166, u167, u168, u169, u170, u171, u172, u173, u174, u175, u176, u177, u178, u179, u180, u181, u182, u183, u184, u185, u186, u187, u188, u189, u190, u191, u192, u193, u194, u195, u196, u197, u198, u199, u200, u201, u202, u203, u204, u205, u206, u207, u208, u209, u210, u211, u212, u213, u214, u215, u216, u217, u218, u219, u220, u221, u222, u223, u224, u225, u226, u227, u228, u229, u230, u231, u232, u233, u234, u235, u236], defers := [] } V from wp_seq (hs _ (fun _ _ h => h))
  intro K hK
  have HK := Lib.hid (fun (V2 : World) (h2 : Below V.heap.size V V2) (ho : out = (if k = 10 ∧ (groupV ks).all varB = false then 2 else (if ats.all atomB = false then 2 else (if k = 2 ∧ inB n 1 16 = false then 28 else (if countB x k n ats.length ks nb = false then 19 else (if k = 10 ∧ funsB nf ks = false then 2 else (if k = 8 ∧ risingB ks = false then 3 else (if ats.all (asksB (if k = 10 then l ++ groupV ks else l)) = false then 16 else 0)))))))) (y0 y4 y5 y6 y8 y9 y10 y11 y12 y13 y14 y15 y16 y17 y18 y19 y20 y21 y22 y23 y24 y25 y26 y27 y28 y29 y30 y31 y32 y33 y34 y35 y36 y37 y38 y39 y40 y41 y42 y43 y44 y45 y46 y47 y48 y49 y50 y51 y52 y53 y54 y55 y56 y57 y58 y59 y60 y61 y62 y63 y64 y65 y66 y67 y68 y69 y70 y71 y72 y73 y74 y75 y76 y77 y78 y79 y80 y81 y82 y83 y84 y85 y86 y87 y88 y89 y90 y91 y92 y93 y94 y95 y96 y97 y98 y99 y100 y101 y102 y103 y104 y105 y106 y107 y108 y109 y110 y111 y112 y113 y114 y115 y116 y117 y118 y119 y120 y121 y122 y123 y124 y125 y126 y127 y128 y129 y130 y131 y132 y133 y134 y135 y136 y137 y138 y139 y140 y141 y142 y143 y144 y145 y146 y147 y148 y149 y150 y151 y152 y153 y154 y155 y156 y157 y158 y159 y160 y161 y162 y163 y164 y165 y166 y167 y168 y169 y170 y171 y172 y173 y174 y175 y176 y177 y178 y179 y180 y181 y182 y183 y184 y185 y186 y187 y188 y189 y190 y191 y192 y193 y194 y195 y196 y197 y198 y199 y200 y201 y202 y203 y204 y205 y206 y207 y208 y209 y210 y211 y212 y213 y214 y215 y216 y217 y218 y219 y220 y221 y222 y223 y224 y225 y226 y227 y228 y229 y230 y231 y232 y233 y234 y235 y236 : Value) => hK _ _ (hnext V2 h2 ho y0 y4 y5 y6 y8 y9 y10 y11 y12 y13 y14 y15 y16 y17 y18 y19 y20 y21 y22 y23 y24 y25 y26 y27 y28 y29 y30 y31 y32 y33 y34 y35 y36 y37 y38 y39 y40 y41 y42 y43 y44 y45 y46 y47 y48 y49 y50 y51 y52 y53 y54 y55 y56 y57 y58 y59 y60 y61 y62 y63 y64 y65 y66 y67 y68 y69 y70 y71 y72 y73 y74 y75 y76 y77 y78 y79 y80 y81 y82 y83 y84 y85 y86 y87 y88 y89 y90 y91 y92 y93 y94 y95 y96 y97 y98 y99 y100 y101 y102 y103 y104 y105 y106 y107 y108 y109 y110 y111 y112 y113 y114 y115 y116 y117 y118 y119 y120 y121 y122 y123 y124 y125 y126 y127 y128 y129 y130 y131 y132 y133 y134 y135 y136 y137 y138 y139 y140 y141 y142 y143 y144 y145 y146 y147 y148 y149 y150 y151 y152 y153 y154 y155 y156 y157 y158 y159 y160 y161 y162 y163 y164 y165 y166 y167 y168 y169 y170 y171 y172 y173 y174 y175 y176 y177 y178 y179 y180 y181 y182 y183 y184 y185 y186 y187 y188 y189 y190 y191 y192 y193 y194 y195 y196 y197 y198 y199 y200 y201 y202 y203 y204 y205 y206 y207 y208 y209 y210 y211 y212 y213 y214 y215 y216 y217 y218 y219 y220 y221 y222 y223 y224 y225 y226 y227 y228 y229 y230 y231 y232 y233 y234 y235 y236))
  have HO := Lib.hid hout
  have HB := Lib.hid (C.out_ hV)
  obtain ⟨q0, q1, q2, q3, q4⟩ := C.cells7 hV
  obtain ⟨p0, p1, p2, p3, p4, p5⟩ := C.cells3 hV
  have HV := Lib.hid (isVar_any x V)
  have HN := Lib.hid (rnumber_any hnf k n Aa Ak Al ats.length ca ks.length ck nb cb V)
  clear C hV hsm hka
  clear hnext hK hout
  obtain ⟨Q, hQ⟩ : ∃ Q, (bodyPost Try.prog Try.f39 (IntBelow out w)) = Q := ⟨_, rfl⟩
  have HQ := Lib.hid hQ
  rw [hQ]
  clear hQ
  unfold bdC5 Try.f39
  dsimp only
  cases hv : varB x
  · have HF := Lib.hid (show out = 2 from HO.out.trans (by rw [if_pos (.inl hv)]))
    rw [hv] at HV
    clear HO hv
    go_wp2_with (go_at_call 25; refine HV.out.mono ?_; rintro en w' ⟨rfl, rfl⟩; dsimp only)
    rw [← HQ.out]
    go_ret
    exact ⟨ret_int HF.out.symm, HB.out⟩
  · rw [hv] at HV
    cases hn : nB nf k n
    · have HF := Lib.hid (show out = 2 from HO.out.trans (by rw [if_pos (.inr hn)]))
      rw [hn] at HN
      clear HO hv hn
      go_wp2_with (first
        | (go_at_call 25; refine HV.out.mono ?_; rintro en w' ⟨rfl, rfl⟩; dsimp only)
        | (go_at_call 56; refine HN.out.mono ?_; rintro en w2 ⟨rfl, hb2⟩; dsimp only))
      rw [← HQ.out]
      go_ret
      exact ⟨ret_int HF.out.symm, HB.out.trans (hb2.mono HB.out.size)⟩
    · have HF := Lib.hid (show out = (if k = 10 ∧ (groupV ks).all varB = false then 2 else (if ats.all atomB = false then 2 else (if k = 2 ∧ inB n 1 16 = false then 28 else (if countB x k n ats.length ks nb = false then 19 else (if k = 10 ∧ funsB nf ks = false then 2 else (if k = 8 ∧ risingB ks = false then 3 else (if ats.all (asksB (if k = 10 then l ++ groupV ks else l)) = false then 16 else 0))))))) from HO.out.trans (by rw [if_neg (fun h => by rw [hv, hn] at h; rcases h with h | h <;> cases h)]))
      rw [hn] at HN
      clear HO hv hn
      go_wp2_with (first
        | (go_at_call 25; refine HV.out.mono ?_; rintro en w' ⟨rfl, rfl⟩; dsimp only)
        | (go_at_call 56; refine HN.out.mono ?_; rintro en w2 ⟨rfl, hb2⟩; dsimp only))
      exact HK.out _ hb2 HF.out _ _ _ _ _ _ _ _ _ _ _ _ _ _ _ _ _ _ _ _ _ _ _ _ _ _ _ _ _ _ _ _ _ _ _ _ _ _ _ _ _ _ _ _ _ _ _ _ _ _ _ _ _ _ _ _ _ _ _ _ _ _ _ _ _ _ _ _ _ _ _ _ _ _ _ _ _ _ _ _ _ _ _ _ _ _ _ _ _ _ _ _ _ _ _ _ _ _ _ _ _ _ _ _ _ _ _ _ _ _ _ _ _ _ _ _ _ _ _ _ _ _ _ _ _ _ _ _ _ _ _ _ _ _ _ _ _ _ _ _ _ _ _ _ _ _ _ _ _ _ _ _ _ _ _ _ _ _ _ _ _ _ _ _ _ _ _ _ _ _ _ _ _ _ _ _ _ _ _ _ _ _ _ _ _ _ _ _ _ _ _ _ _ _ _ _ _ _ _ _ _ _ _ _ _ _ _ _ _ _ _ _ _ _ _ _ _ _ _ _ _ _ _ _ _ _ _ _ _ _ _ _ _
set_option maxRecDepth 100000 in
set_option maxHeartbeats 8000000 in
theorem bd_T3 (C : BCtx w W1 X3 X7 x k n Aa Ak Al A2 ats ks ca ck nb cb c2 l) (hV : Below W1.heap.size W1 V) (hnf : nf ≤ 1000000) (hsm : (l.length + ks.length) * 8 ≤ 140737488351232) {b1 b2 b3 b4 : Bool} (hb1 : hasA k = b1) (hb2 : hasN k = b2) (hb3 : hasK k = b3) (hb4 : hasB k = b4) (hout : out = (if bareB k n ats.length ks.length nb = false then 29 else (if varB x = false ∨ nB nf k n = false then 2 else (if k = 10 ∧ (groupV ks).all varB = false then 2 else (if ats.all atomB = false then 2 else (if k = 2 ∧ inB n 1 16 = false then 28 else (if countB x k n ats.length ks nb = false then 19 else (if k = 10 ∧ funsB nf ks = false then 2 else (if k = 8 ∧ risingB ks = false then 3 else (if ats.all (asksB (if k = 10 then l ++ groupV ks else l)) = false then 16 else 0)))))))))) (u0 u4 u5 u6 u13 u14 u15 u16 u17 u18 u19 u20 u21 u22 u23 u24 u25 u26 u27 u28 u29 u30 u31 u32 u33 u34 u35 u36 u37 u38 u39 u40 u41 u42 u43 u44 u45 u46 u47 u48 u49 u50 u51 u52 u53 u54 u55 u56 u57 u58 u59 u60 u61 u62 u63 u64 u65 u66 u67 u68 u69 u70 u71 u72 u73 u74 u75 u76 u77 u78 u79 u80 u81 u82 u83 u84 u85 u86 u87 u88 u89 u90 u91 u92 u93 u94 u95 u96 u97 u98 u99 u100 u101 u102 u103 u104 u105 u106 u107 u108 u109 u110 u111 u112 u113 u114 u115 u116 u117 u118 u119 u120 u121 u122 u123 u124 u125 u126 u127 u128 u129 u130 u131 u132 u133 u134 u135 u136 u137 u138 u139 u140 u141 u142 u143 u144 u145 u146 u147 u148 u149 u150 u151 u152 u153 u154 u155 u156 u157 u158 u159 u160 u161 u162 u163 u164 u165 u166 u167 u168 u169 u170 u171 u172 u173 u174 u175 u176 u177 u178 u179 u180 u181 u182 u183 u184 u185 u186 u187 u188 u189 u190 u191 u192 u193 u194 u195 u196 u197 u198 u199 u200 u201 u202 u203 u204 u205 u206 u207 u208 u209 u210 u211 u212 u213 u214 u215 u216 u217 u218 u219 u220 u221 u222 u223 u224 u225 u226 u227 u228 u229 u230 u231 u232 u233 u234 u235 u236 : Value) :
    bdT3.wp Try.prog (bodyPost Try.prog Try.f39 (IntBelow out w)) { tmps := #[u0, .int .i64 (nf : Int), .slice A2 l.length c2, .pointer (some ⟨X3, 0, none⟩), u4, u5, u6, .pointer (some ⟨X7, 0, none⟩), .bool b2, .bool b1, .bool b3, .bool b4, .bool b1, u13, u14, u15, u16, u17, u18, u19, u20, u21, u22, u23, u24, u25, u26, u27, u28, u29, u30, u31, u32, u33, u34, u35, u36, u37, u38, u39, u40, u41, u42, u43, u44, u45, u46, u47, u48, u49, u50, u51, u52, u53, u54, u55, u56, u57, u58, u59, u60, u61, u62, u63, u64, u65, u66, u67, u68, u69, u70, u71, u72, u73, u74, u75, u76, u77, u78, u79, u80, u81, u82, u83, u84, u85, u86, u87, u88, u89, u90, u91, u92, u93, u94, u95, u96, u97, u98, u99, u100, u101, u102, u103, u104, u105, u106, u107, u108, u109, u110, u111, u112, u113, u114, u115, u116, u117, u118, u119, u120, u121, u122, u123, u124, u125, u126, u127, u128, u129, u130, u131, u132, u133, u134, u135, u136, u137, u138, u139, u140, u141, u142, u143, u144, u145, u146, u147, u148, u149, u150, u151, u152, u153, u154, u155, u156, u157, u158, u159, u160, u161, u162, u163, u164, u165, u166, u167, u168, u169, u170, u171, u172, u173, u174, u175, u176, u177, u178, u179, u180, u181, u182, u183, u184, u185, u186, u187, u188, u189, u190, u191, u192, u193, u194, u195, u196, u197, u198, u199, u200, u201, u202, u203, u204, u205, u206, u207, u208, u209, u210, u211, u212, u213, u214, u215, u216, u217, u218, u219, u220, u221, u222, u223, u224, u225, u226, u227, u228, u229, u230, u231, u232, u233, u234, u235, u236], defers := [] } V := by
  have hnext := fun (hka : b1 = true) (ho : out = (if varB x = false ∨ nB nf k n = false then 2 else (if k = 10 ∧ (groupV ks).all varB = false then 2 else (if ats.all atomB = false then 2 else (if k = 2 ∧ inB n 1 16 = false then 28 else (if countB x k n ats.length ks nb = false then 19 else (if k = 10 ∧ funsB nf ks = false then 2 else (if k = 8 ∧ risingB ks = false then 3 else (if ats.all (asksB (if k = 10 then l ++ groupV ks else l)) = false then 16 else 0))))))))) (y0 y4 y5 y6 y8 y9 y10 y11 y12 y13 y14 y15 y16 y17 y18 y19 y20 y21 y22 y23 y24 y25 y26 y27 y28 y29 y30 y31 y32 y33 y34 y35 y36 y37 y38 y39 y40 y41 y42 y43 y44 y45 y46 y47 y48 y49 y50 y51 y52 y53 y54 y55 y56 y57 y58 y59 y60 y61 y62 y63 y64 y65 y66 y67 y68 y69 y70 y71 y72 y73 y74 y75 y76 y77 y78 y79 y80 y81 y82 y83 y84 y85 y86 y87 y88 y89 y90 y91 y92 y93 y94 y95 y96 y97 y98 y99 y100 y101 y102 y103 y104 y105 y106 y107 y108 y109 y110 y111 y112 y113 y114 y115 y116 y117 y118 y119 y120 y121 y122 y123 y124 y125 y126 y127 y128 y129 y130 y131 y132 y133 y134 y135 y136 y137 y138 y139 y140 y141 y142 y143 y144 y145 y146 y147 y148 y149 y150 y151 y152 y153 y154 y155 y156 y157 y158 y159 y160 y161 y162 y163 y164 y165 y166 y167 y168 y169 y170 y171 y172 y173 y174 y175 y176 y177 y178 y179 y180 y181 y182 y183 y184 y185 y186 y187 y188 y189 y190 y191 y192 y193 y194 y195 y196 y197 y198 y199 y200 y201 y202 y203 y204 y205 y206 y207 y208 y209 y210 y211 y212 y213 y214 y215 y216 y217 y218 y219 y220 y221 y222 y223 y224 y225 y226 y227 y228 y229 y230 y231 y232 y233 y234 y235 y236 : Value) => bd_T5 C hV hnf hsm (hb1.trans hka) ho y0 y4 y5 y6 y8 y9 y10 y11 y12 y13 y14 y15 y16 y17 y18 y19 y20 y21 y22 y23 y24 y25 y26 y27 y28 y29 y30 y31 y32 y33 y34 y35 y36 y37 y38 y39 y40 y41 y42 y43 y44 y45 y46 y47 y48 y49 y50 y51 y52 y53 y54 y55 y56 y57 y58 y59 y60 y61 y62 y63 y64 y65 y66 y67 y68 y69 y70 y71 y72 y73 y74 y75 y76 y77 y78 y79 y80 y81 y82 y83 y84 y85 y86 y87 y88 y89 y90 y91 y92 y93 y94 y95 y96 y97 y98 y99 y100 y101 y102 y103 y104 y105 y106 y107 y108 y109 y110 y111 y112 y113 y114 y115 y116 y117 y118 y119 y120 y121 y122 y123 y124 y125 y126 y127 y128 y129 y130 y131 y132 y133 y134 y135 y136 y137 y138 y139 y140 y141 y142 y143 y144 y145 y146 y147 y148 y149 y150 y151 y152 y153 y154 y155 y156 y157 y158 y159 y160 y161 y162 y163 y164 y165 y166 y167 y168 y169 y170 y171 y172 y173 y174 y175 y176 y177 y178 y179 y180 y181 y182 y183 y184 y185 y186 y187 y188 y189 y190 y191 y192 y193 y194 y195 y196 y197 y198 y199 y200 y201 y202 y203 y204 y205 y206 y207 y208 y209 y210 y211 y212 y213 y214 y215 y216 y217 y218 y219 y220 y221 y222 y223 y224 y225 y226 y227 y228 y229 y230 y231 y232 y233 y234 y235 y236
  suffices hs : ∀ K : Act → World → Prop, (∀ a w2, bdT5.wp Try.prog (bodyPost Try.prog Try.f39 (IntBelow out w)) a w2 → K a w2) → bdC3.wp Try.prog (Exit.then K (bodyPost Try.prog Try.f39 (IntBelow out w))) { tmps := #[u0, .int .i64 (nf : Int), .slice A2 l.length c2, .pointer (some ⟨X3, 0, none⟩), u4, u5, u6, .pointer (some ⟨X7, 0, none⟩), .bool b2, .bool b1, .bool b3, .bool b4, .bool b1, u13, u14, u15, u16, u17, u18, u19, u20, u21, u22, u23, u24, u25, u26, u27, u28, u29, u30, u31, u32, u33, u34, u35, u36, u37, u38, u39, u40, u41, u42, u43, u44, u45, u46, u47, u48, u49, u50, u51, u52, u53, u54, u55, u56, u57, u58, u59, u60, u61, u62, u63, u64, u65, u66, u67, u68, u69, u70, u71, u72, u73, u74, u75, u76, u77, u78, u79, u80, u81, u82, u83, u84, u85, u86, u87, u88, u89, u90, u91, u92, u93, u94, u95, u96, u97, u98, u99, u100, u101, u102, u103, u104, u105, u106, u107, u108, u109, u110, u111, u112, u113, u114, u115, u116, u117, u118, u119, u120, u121, u122, u123, u124, u125, u126, u127, u128, u129, u130, u131, u132, u133, u134, u135, u136, u137, u138, u139, u140, u141, u142, u143, u144, u145, u146, u147, u148, u149, u150, u151, u152, u153, u154, u155, u156, u157, u158, u159, u160, u161, u162, u163, u164, u165, u166, u167, u168, u169, u170, u171, u172, u173, u174, u175, u176, u177, u178, u179, u180, u181, u182, u183, u184, u185, u186, u187, u188, u189, u190, u191, u192, u193, u194, u195, u196, u197, u198, u199, u200, u201, u202, u203, u204, u205, u206, u207, u208, u209, u210, u211, u212, u213, u214, u215, u216, u217, u218, u219, u220, u221, u222, u223, u224, u225, u226, u227, u228, u229, u230, u231, u232, u233, u234, u235, u236], defers := [] } V from wp_seq (hs _ (fun _ _ h => h))
  intro K hK
  have HK := Lib.hid (fun (hka : b1 = true) (ho : out = (if varB x = false ∨ nB nf k n = false then 2 else (if k = 10 ∧ (groupV ks).all varB = false then 2 else (if ats.all atomB = false then 2 else (if k = 2 ∧ inB n 1 16 = false then 28 else (if countB x k n ats.length ks nb = false then 19 else (if k = 10 ∧ funsB nf ks = false then 2 else (if k = 8 ∧ risingB ks = false then 3 else (if ats.all (asksB (if k = 10 then l ++ groupV ks else l)) = false then 16 else 0))))))))) (y0 y4 y5 y6 y8 y9 y10 y11 y12 y13 y14 y15 y16 y17 y18 y19 y20 y21 y22 y23 y24 y25 y26 y27 y28 y29 y30 y31 y32 y33 y34 y35 y36 y37 y38 y39 y40 y41 y42 y43 y44 y45 y46 y47 y48 y49 y50 y51 y52 y53 y54 y55 y56 y57 y58 y59 y60 y61 y62 y63 y64 y65 y66 y67 y68 y69 y70 y71 y72 y73 y74 y75 y76 y77 y78 y79 y80 y81 y82 y83 y84 y85 y86 y87 y88 y89 y90 y91 y92 y93 y94 y95 y96 y97 y98 y99 y100 y101 y102 y103 y104 y105 y106 y107 y108 y109 y110 y111 y112 y113 y114 y115 y116 y117 y118 y119 y120 y121 y122 y123 y124 y125 y126 y127 y128 y129 y130 y131 y132 y133 y134 y135 y136 y137 y138 y139 y140 y141 y142 y143 y144 y145 y146 y147 y148 y149 y150 y151 y152 y153 y154 y155 y156 y157 y158 y159 y160 y161 y162 y163 y164 y165 y166 y167 y168 y169 y170 y171 y172 y173 y174 y175 y176 y177 y178 y179 y180 y181 y182 y183 y184 y185 y186 y187 y188 y189 y190 y191 y192 y193 y194 y195 y196 y197 y198 y199 y200 y201 y202 y203 y204 y205 y206 y207 y208 y209 y210 y211 y212 y213 y214 y215 y216 y217 y218 y219 y220 y221 y222 y223 y224 y225 y226 y227 y228 y229 y230 y231 y232 y233 y234 y235 y236 : Value) => hK _ _ (hnext hka ho y0 y4 y5 y6 y8 y9 y10 y11 y12 y13 y14 y15 y16 y17 y18 y19 y20 y21 y22 y23 y24 y25 y26 y27 y28 y29 y30 y31 y32 y33 y34 y35 y36 y37 y38 y39 y40 y41 y42 y43 y44 y45 y46 y47 y48 y49 y50 y51 y52 y53 y54 y55 y56 y57 y58 y59 y60 y61 y62 y63 y64 y65 y66 y67 y68 y69 y70 y71 y72 y73 y74 y75 y76 y77 y78 y79 y80 y81 y82 y83 y84 y85 y86 y87 y88 y89 y90 y91 y92 y93 y94 y95 y96 y97 y98 y99 y100 y101 y102 y103 y104 y105 y106 y107 y108 y109 y110 y111 y112 y113 y114 y115 y116 y117 y118 y119 y120 y121 y122 y123 y124 y125 y126 y127 y128 y129 y130 y131 y132 y133 y134 y135 y136 y137 y138 y139 y140 y141 y142 y143 y144 y145 y146 y147 y148 y149 y150 y151 y152 y153 y154 y155 y156 y157 y158 y159 y160 y161 y162 y163 y164 y165 y166 y167 y168 y169 y170 y171 y172 y173 y174 y175 y176 y177 y178 y179 y180 y181 y182 y183 y184 y185 y186 y187 y188 y189 y190 y191 y192 y193 y194 y195 y196 y197 y198 y199 y200 y201 y202 y203 y204 y205 y206 y207 y208 y209 y210 y211 y212 y213 y214 y215 y216 y217 y218 y219 y220 y221 y222 y223 y224 y225 y226 y227 y228 y229 y230 y231 y232 y233 y234 y235 y236))
  have x1 : ((ats.length : Int) == 0) = (ats.length == 0) := by rw [Bool.eq_iff_iff]; simp
  have x2 : ((ks.length : Int) == 0) = (ks.length == 0) := by rw [Bool.eq_iff_iff]; simp
  have x3 : ((nb : Int) == 0) = (nb == 0) := by rw [Bool.eq_iff_iff]; simp
  have hbare : bareB k n ats.length ks.length nb = (b1 && (b2 || n == 0) && (b1 || ats.length == 0) && (b3 || ks.length == 0) && (b4 || nb == 0)) := by
    unfold bareB; rw [hb1, hb2, hb3, hb4]
  have HO := Lib.hid (show out = (if (b1 && (b2 || n == 0) && (b1 || ats.length == 0) && (b3 || ks.length == 0) && (b4 || nb == 0)) = false then 29 else (if varB x = false ∨ nB nf k n = false then 2 else (if k = 10 ∧ (groupV ks).all varB = false then 2 else (if ats.all atomB = false then 2 else (if k = 2 ∧ inB n 1 16 = false then 28 else (if countB x k n ats.length ks nb = false then 19 else (if k = 10 ∧ funsB nf ks = false then 2 else (if k = 8 ∧ risingB ks = false then 3 else (if ats.all (asksB (if k = 10 then l ++ groupV ks else l)) = false then 16 else 0))))))))) from hbare ▸ hout)
  have HB := Lib.hid (C.out_ hV)
  have hc := has_combo k
  rw [hb1, hb2, hb3, hb4] at hc
  obtain ⟨q0, q1, q2, q3, q4⟩ := C.cells7 hV
  clear hnext hK hout hbare C hV hsm hb1 hb2 hb3 hb4 x1 x2 x3
  obtain ⟨Q, hQ⟩ : ∃ Q, (bodyPost Try.prog Try.f39 (IntBelow out w)) = Q := ⟨_, rfl⟩
  have HQ := Lib.hid hQ
  rw [hQ]
  clear hQ
  unfold bdC3 Try.f39
  dsimp only
  rcases hc with rfl | ⟨rfl, ⟨rfl, rfl, rfl⟩ | ⟨rfl, rfl, rfl⟩ | ⟨rfl, rfl, rfl⟩ | ⟨rfl, rfl, rfl⟩⟩
  · have HF := Lib.hid (show out = 29 from HO.out.trans (by simp))
    clear HO
    go_wp2_with fail
    rw [← HQ.out]
    go_ret
    exact ⟨ret_int HF.out.symm, HB.out⟩
  · by_cases e1 : n = 0
    · have e1t : (n != 0) = false := by simpa using e1
      have E1 := Lib.hid e1
      clear e1
      · by_cases e2 : ks.length = 0
        · have e2t : decide ((0 : Int) < (ks.length : Int)) = false := by simp only [decide_eq_false_iff_not]; omega
          have e2tn : decide (0 < ks.length) = false := by simp only [decide_eq_false_iff_not]; omega
          have E2 := Lib.hid e2
          clear e2
          · by_cases e3 : nb = 0
            · have e3t : decide ((0 : Int) < (nb : Int)) = false := by simp only [decide_eq_false_iff_not]; omega
              have e3tn : decide (0 < nb) = false := by simp only [decide_eq_false_iff_not]; omega
              have E3 := Lib.hid e3
              clear e3
              · have HF := Lib.hid (show out = (if varB x = false ∨ nB nf k n = false then 2 else (if k = 10 ∧ (groupV ks).all varB = false then 2 else (if ats.all atomB = false then 2 else (if k = 2 ∧ inB n 1 16 = false then 28 else (if countB x k n ats.length ks nb = false then 19 else (if k = 10 ∧ funsB nf ks = false then 2 else (if k = 8 ∧ risingB ks = false then 3 else (if ats.all (asksB (if k = 10 then l ++ groupV ks else l)) = false then 16 else 0)))))))) from HO.out.trans (by simp [E1.out, E2.out, E3.out]))
                clear HO
                go_wp2_with fail
                exact HK.out rfl HF.out _ _ _ _ _ _ _ _ _ _ _ _ _ _ _ _ _ _ _ _ _ _ _ _ _ _ _ _ _ _ _ _ _ _ _ _ _ _ _ _ _ _ _ _ _ _ _ _ _ _ _ _ _ _ _ _ _ _ _ _ _ _ _ _ _ _ _ _ _ _ _ _ _ _ _ _ _ _ _ _ _ _ _ _ _ _ _ _ _ _ _ _ _ _ _ _ _ _ _ _ _ _ _ _ _ _ _ _ _ _ _ _ _ _ _ _ _ _ _ _ _ _ _ _ _ _ _ _ _ _ _ _ _ _ _ _ _ _ _ _ _ _ _ _ _ _ _ _ _ _ _ _ _ _ _ _ _ _ _ _ _ _ _ _ _ _ _ _ _ _ _ _ _ _ _ _ _ _ _ _ _ _ _ _ _ _ _ _ _ _ _ _ _ _ _ _ _ _ _ _ _ _ _ _ _ _ _ _ _ _ _ _ _ _ _ _ _ _ _ _ _ _ _ _ _ _ _ _ _ _ _ _ _
            · have e3f : decide ((0 : Int) < (nb : Int)) = true := by simp only [decide_eq_true_eq]; omega
              have e3fn : decide (0 < nb) = true := by simp only [decide_eq_true_eq]; omega
              have HF := Lib.hid (show out = 29 from HO.out.trans (by simp [E1.out, E2.out, e3]))
              clear e3
              clear HO
              go_wp2_with fail
              rw [← HQ.out]
              go_ret
              exact ⟨ret_int HF.out.symm, HB.out⟩
        · have e2f : decide ((0 : Int) < (ks.length : Int)) = true := by simp only [decide_eq_true_eq]; omega
          have e2fn : decide (0 < ks.length) = true := by simp only [decide_eq_true_eq]; omega
          have HF := Lib.hid (show out = 29 from HO.out.trans (by simp [E1.out, e2]))
          clear e2
          clear HO
          go_wp2_with fail
          rw [← HQ.out]
          go_ret
          exact ⟨ret_int HF.out.symm, HB.out⟩
    · have e1f : (n != 0) = true := by simpa using e1
      have HF := Lib.hid (show out = 29 from HO.out.trans (by simp [e1]))
      clear e1
      clear HO
      go_wp2_with fail
      rw [← HQ.out]
      go_ret
      exact ⟨ret_int HF.out.symm, HB.out⟩
  · by_cases e2 : ks.length = 0
    · have e2t : decide ((0 : Int) < (ks.length : Int)) = false := by simp only [decide_eq_false_iff_not]; omega
      have e2tn : decide (0 < ks.length) = false := by simp only [decide_eq_false_iff_not]; omega
      have E2 := Lib.hid e2
      clear e2
      · by_cases e3 : nb = 0
        · have e3t : decide ((0 : Int) < (nb : Int)) = false := by simp only [decide_eq_false_iff_not]; omega
          have e3tn : decide (0 < nb) = false := by simp only [decide_eq_false_iff_not]; omega
          have E3 := Lib.hid e3
          clear e3
          · have HF := Lib.hid (show out = (if varB x = false ∨ nB nf k n = false then 2 else (if k = 10 ∧ (groupV ks).all varB = false then 2 else (if ats.all atomB = false then 2 else (if k = 2 ∧ inB n 1 16 = false then 28 else (if countB x k n ats.length ks nb = false then 19 else (if k = 10 ∧ funsB nf ks = false then 2 else (if k = 8 ∧ risingB ks = false then 3 else (if ats.all (asksB (if k = 10 then l ++ groupV ks else l)) = false then 16 else 0)))))))) from HO.out.trans (by simp [E2.out, E3.out]))
            clear HO
            go_wp2_with fail
            exact HK.out rfl HF.out _ _ _ _ _ _ _ _ _ _ _ _ _ _ _ _ _ _ _ _ _ _ _ _ _ _ _ _ _ _ _ _ _ _ _ _ _ _ _ _ _ _ _ _ _ _ _ _ _ _ _ _ _ _ _ _ _ _ _ _ _ _ _ _ _ _ _ _ _ _ _ _ _ _ _ _ _ _ _ _ _ _ _ _ _ _ _ _ _ _ _ _ _ _ _ _ _ _ _ _ _ _ _ _ _ _ _ _ _ _ _ _ _ _ _ _ _ _ _ _ _ _ _ _ _ _ _ _ _ _ _ _ _ _ _ _ _ _ _ _ _ _ _ _ _ _ _ _ _ _ _ _ _ _ _ _ _ _ _ _ _ _ _ _ _ _ _ _ _ _ _ _ _ _ _ _ _ _ _ _ _ _ _ _ _ _ _ _ _ _ _ _ _ _ _ _ _ _ _ _ _ _ _ _ _ _ _ _ _ _ _ _ _ _ _ _ _ _ _ _ _ _ _ _ _ _ _ _ _ _ _ _ _
        · have e3f : decide ((0 : Int) < (nb : Int)) = true := by simp only [decide_eq_true_eq]; omega
          have e3fn : decide (0 < nb) = true := by simp only [decide_eq_true_eq]; omega
          have HF := Lib.hid (show out = 29 from HO.out.trans (by simp [E2.out, e3]))
          clear e3
          clear HO
          go_wp2_with fail
          rw [← HQ.out]
          go_ret
          exact ⟨ret_int HF.out.symm, HB.out⟩
    · have e2f : decide ((0 : Int) < (ks.length : Int)) = true := by simp only [decide_eq_true_eq]; omega
      have e2fn : decide (0 < ks.length) = true := by simp only [decide_eq_true_eq]; omega
      have HF := Lib.hid (show out = 29 from HO.out.trans (by simp [e2]))
      clear e2
      clear HO
      go_wp2_with fail
      rw [← HQ.out]
      go_ret
      exact ⟨ret_int HF.out.symm, HB.out⟩
  · by_cases e1 : n = 0
    · have e1t : (n != 0) = false := by simpa using e1
      have E1 := Lib.hid e1
      clear e1
      · have HF := Lib.hid (show out = (if varB x = false ∨ nB nf k n = false then 2 else (if k = 10 ∧ (groupV ks).all varB = false then 2 else (if ats.all atomB = false then 2 else (if k = 2 ∧ inB n 1 16 = false then 28 else (if countB x k n ats.length ks nb = false then 19 else (if k = 10 ∧ funsB nf ks = false then 2 else (if k = 8 ∧ risingB ks = false then 3 else (if ats.all (asksB (if k = 10 then l ++ groupV ks else l)) = false then 16 else 0)))))))) from HO.out.trans (by simp [E1.out]))
        clear HO
        go_wp2_with fail
        exact HK.out rfl HF.out _ _ _ _ _ _ _ _ _ _ _ _ _ _ _ _ _ _ _ _ _ _ _ _ _ _ _ _ _ _ _ _ _ _ _ _ _ _ _ _ _ _ _ _ _ _ _ _ _ _ _ _ _ _ _ _ _ _ _ _ _ _ _ _ _ _ _ _ _ _ _ _ _ _ _ _ _ _ _ _ _ _ _ _ _ _ _ _ _ _ _ _ _ _ _ _ _ _ _ _ _ _ _ _ _ _ _ _ _ _ _ _ _ _ _ _ _ _ _ _ _ _ _ _ _ _ _ _ _ _ _ _ _ _ _ _ _ _ _ _ _ _ _ _ _ _ _ _ _ _ _ _ _ _ _ _ _ _ _ _ _ _ _ _ _ _ _ _ _ _ _ _ _ _ _ _ _ _ _ _ _ _ _ _ _ _ _ _ _ _ _ _ _ _ _ _ _ _ _ _ _ _ _ _ _ _ _ _ _ _ _ _ _ _ _ _ _ _ _ _ _ _ _ _ _ _ _ _ _ _ _ _ _
    · have e1f : (n != 0) = true := by simpa using e1
      have HF := Lib.hid (show out = 29 from HO.out.trans (by simp [e1]))
      clear e1
      clear HO
      go_wp2_with fail
      rw [← HQ.out]
      go_ret
      exact ⟨ret_int HF.out.symm, HB.out⟩
  · by_cases e1 : n = 0
    · have e1t : (n != 0) = false := by simpa using e1
      have E1 := Lib.hid e1
      clear e1
      · by_cases e3 : nb = 0
        · have e3t : decide ((0 : Int) < (nb : Int)) = false := by simp only [decide_eq_false_iff_not]; omega
          have e3tn : decide (0 < nb) = false := by simp only [decide_eq_false_iff_not]; omega
          have E3 := Lib.hid e3
          clear e3
          · have HF := Lib.hid (show out = (if varB x = false ∨ nB nf k n = false then 2 else (if k = 10 ∧ (groupV ks).all varB = false then 2 else (if ats.all atomB = false then 2 else (if k = 2 ∧ inB n 1 16 = false then 28 else (if countB x k n ats.length ks nb = false then 19 else (if k = 10 ∧ funsB nf ks = false then 2 else (if k = 8 ∧ risingB ks = false then 3 else (if ats.all (asksB (if k = 10 then l ++ groupV ks else l)) = false then 16 else 0)))))))) from HO.out.trans (by simp [E1.out, E3.out]))
            clear HO
            go_wp2_with fail
            exact HK.out rfl HF.out _ _ _ _ _ _ _ _ _ _ _ _ _ _ _ _ _ _ _ _ _ _ _ _ _ _ _ _ _ _ _ _ _ _ _ _ _ _ _ _ _ _ _ _ _ _ _ _ _ _ _ _ _ _ _ _ _ _ _ _ _ _ _ _ _ _ _ _ _ _ _ _ _ _ _ _ _ _ _ _ _ _ _ _ _ _ _ _ _ _ _ _ _ _ _ _ _ _ _ _ _ _ _ _ _ _ _ _ _ _ _ _ _ _ _ _ _ _ _ _ _ _ _ _ _ _ _ _ _ _ _ _ _ _ _ _ _ _ _ _ _ _ _ _ _ _ _ _ _ _ _ _ _ _ _ _ _ _ _ _ _ _ _ _ _ _ _ _ _ _ _ _ _ _ _ _ _ _ _ _ _ _ _ _ _ _ _ _ _ _ _ _ _ _ _ _ _ _ _ _ _ _ _ _ _ _ _ _ _ _ _ _ _ _ _ _ _ _ _ _ _ _ _ _ _ _ _ _ _ _ _ _ _
        · have e3f : decide ((0 : Int) < (nb : Int)) = true := by simp only [decide_eq_true_eq]; omega
          have e3fn : decide (0 < nb) = true := by simp only [decide_eq_true_eq]; omega
          have HF := Lib.hid (show out = 29 from HO.out.trans (by simp [E1.out, e3]))
          clear e3
          clear HO
          go_wp2_with fail
          rw [← HQ.out]
          go_ret
          exact ⟨ret_int HF.out.symm, HB.out⟩
    · have e1f : (n != 0) = true := by simpa using e1
      have HF := Lib.hid (show out = 29 from HO.out.trans (by simp [e1]))
      clear e1
      clear HO
      go_wp2_with fail
      rw [← HQ.out]
      go_ret
      exact ⟨ret_int HF.out.symm, HB.out⟩
end
end Go.Proofs.Ytnobggabjpcbfaa

/-
  camletref30.bind: its contract.
-/
set_option linter.unusedVariables false
set_option linter.unusedSimpArgs false
namespace Go.Proofs.Ytnobggabjpcbfaa
open Go.RowKit Go.Maps

theorem numberB_n (nf : Nat) (x k n : Int) (ats : List Atm) (ks : List Int) : numberB nf x k n ats ks = (varB x && (k != 10 || (groupV ks).all varB) && nB nf k n && ats.all atomB) := rfl
/-- what bind answers: bindE, then the variables -/
theorem bind_out (nf : Nat) (x k n : Int) (ats : List Atm) (ks l : List Int) (nb : Nat) :
    (if bareB k n ats.length ks.length nb = false then 29 else if varB x = false ∨ nB nf k n = false then 2 else if k = 10 ∧ (groupV ks).all varB = false then 2 else if ats.all atomB = false then 2 else if k = 2 ∧ inB n 1 16 = false then 28 else if countB x k n ats.length ks nb = false then 19 else if k = 10 ∧ funsB nf ks = false then 2 else if k = 8 ∧ risingB ks = false then 3 else if ats.all (asksB (if k = 10 then l ++ groupV ks else l)) = false then 16 else (0 : Int))
      = if bindE nf x k n ats ks nb ≠ 0 then bindE nf x k n ats ks nb else if ats.all (asksB (if k = 10 then l ++ groupV ks else l)) = false then 16 else 0 := by
  unfold bindE
  rw [numberB_n]
  cases h1 : bareB k n ats.length ks.length nb
  · simp
  · cases h2 : varB x
    · simp
    · cases h3 : nB nf k n
      · simp
      · by_cases h4 : k = 10 ∧ (groupV ks).all varB = false
        · obtain ⟨h4a, h4b⟩ := h4
          simp [h4a, h4b]
        · have h5 : (k != 10 || (groupV ks).all varB) = true := by
            by_cases hk : k = 10
            · have : (groupV ks).all varB = true := by
                cases hh : (groupV ks).all varB
                · exact absurd ⟨hk, hh⟩ h4
                · rfl
              simp [this]
            · simp [hk]
          rw [if_neg h4, h5]
          cases h6 : ats.all atomB
          · simp
          · simp only [Bool.true_eq_false, if_false, or_self, Bool.and_self]
            by_cases h7 : k = 2 ∧ inB n 1 16 = false
            · simp [h7]
            · rw [if_neg h7, if_neg h7]
              cases h8 : countB x k n ats.length ks nb
              · simp
              · simp only [Bool.true_eq_false, if_false]
                by_cases h9 : k = 10 ∧ funsB nf ks = false
                · simp [h9]
                · rw [if_neg h9, if_neg h9]
                  by_cases h10 : k = 8 ∧ risingB ks = false
                  · simp [h10]
                  · rw [if_neg h10, if_neg h10]
                    simp
noncomputable def bdr0 : Code := match Try.f39.body with
  | some (.seq c _) => c
  | _ => .skip
noncomputable def bdr1 : Code := match Try.f39.body with
  | some (.seq _ (.seq c _)) => c
  | _ => .skip
noncomputable def bdr2 : Code := match Try.f39.body with
  | some (.seq _ (.seq _ (.seq c _))) => c
  | _ => .skip
def bindR (nf : Nat) (x k n : Int) (ats : List Atm) (ks l : List Int) (nb : Nat) : Int := if bindE nf x k n ats ks nb ≠ 0 then bindE nf x k n ats ks nb else if ats.all (asksB (if k = 10 then l ++ groupV ks else l)) = false then 16 else 0
set_option maxRecDepth 100000 in
set_option maxHeartbeats 8000000 in
theorem rbind_any {nf : Nat} (hnf : nf ≤ 1000000) (x k n : Int) {Aa Ak Al A2 : Option Addr} {ca ck nb cb c2 : Nat} {ats : List Atm} {ks l : List Int} {w : World} (ha : AtomsIn w.heap.size w Aa ats) (hac : ats.length ≤ ca) (hk : IntsIn w.heap.size w Ak ks) (hkc : ks.length ≤ ck) (hl : IntsIn w.heap.size w A2 l) (hlc : l.length ≤ c2) (hsm : (l.length + ks.length) * 8 ≤ 140737488351232) :
    Calls Try.prog 39 #[.agg #[.int .i64 x, .int .i64 k, .int .i64 n, .slice Aa ats.length ca, .slice Ak ks.length ck, .slice Al nb cb], .int .i64 (nf : Int), .slice A2 l.length c2] w (IntBelow (bindR nf x k n ats ks l nb) w) := by
  obtain ⟨W0, hW0⟩ : ∃ W0, w.alloc (.cells #[.int .i64 x, .int .i64 k, .int .i64 n, .slice Aa ats.length ca, .slice Ak ks.length ck, .slice Al nb cb] 54) = W0 := ⟨_, rfl⟩
  have hb0 : Below w.heap.size w W0 := by rw [← hW0]; exact (Below.refl _ _).alloc (Nat.le_refl _) _
  have h00 : W0.heap[w.heap.size]? = some (.cells #[.int .i64 x, .int .i64 k, .int .i64 n, .slice Aa ats.length ca, .slice Ak ks.length ck, .slice Al nb cb] 54 (0, 0)) := by rw [← hW0]; exact World.alloc_heap_new w _
  obtain ⟨W1, hW1⟩ : ∃ W1, W0.alloc (.cells #[.int .i64 k, .int .i64 n, .slice Aa ats.length ca, .slice Ak ks.length ck, .slice Al nb cb] 52) = W1 := ⟨_, rfl⟩
  have hb1 : Below W0.heap.size W0 W1 := by rw [← hW1]; exact (Below.refl _ _).alloc (Nat.le_refl _) _
  have h11 : W1.heap[W0.heap.size]? = some (.cells #[.int .i64 k, .int .i64 n, .slice Aa ats.length ca, .slice Ak ks.length ck, .slice Al nb cb] 52 (0, 0)) := by rw [← hW1]; exact World.alloc_heap_new W0 _
  have hB := hb0.trans (hb1.mono hb0.size)
  have C : BCtx w W1 w.heap.size W0.heap.size x k n Aa Ak Al A2 ats ks ca ck nb cb c2 l := ⟨hB, (hb1.block _ (heap_lt h00)).trans h00, h11, (ha.below hB).mono hB.size, hac, (hk.below hB).mono hB.size, hkc, (hl.below hB).mono hB.size, hlc⟩
  obtain ⟨out, hout⟩ : ∃ o, bindR nf x k n ats ks l nb = o := ⟨_, rfl⟩
  have ho : out = (if bareB k n ats.length ks.length nb = false then 29 else (if varB x = false ∨ nB nf k n = false then 2 else (if k = 10 ∧ (groupV ks).all varB = false then 2 else (if ats.all atomB = false then 2 else (if k = 2 ∧ inB n 1 16 = false then 28 else (if countB x k n ats.length ks nb = false then 19 else (if k = 10 ∧ funsB nf ks = false then 2 else (if k = 8 ∧ risingB ks = false then 3 else (if ats.all (asksB (if k = 10 then l ++ groupV ks else l)) = false then 16 else 0))))))))) := by rw [← hout]; exact (bind_out nf x k n ats ks l nb).symm
  rw [hout]
  have HF := Lib.hid (rfields_any k W1)
  have hT := fun (y0 y4 y5 y6 y13 y14 y15 y16 y17 y18 y19 y20 y21 y22 y23 y24 y25 y26 y27 y28 y29 y30 y31 y32 y33 y34 y35 y36 y37 y38 y39 y40 y41 y42 y43 y44 y45 y46 y47 y48 y49 y50 y51 y52 y53 y54 y55 y56 y57 y58 y59 y60 y61 y62 y63 y64 y65 y66 y67 y68 y69 y70 y71 y72 y73 y74 y75 y76 y77 y78 y79 y80 y81 y82 y83 y84 y85 y86 y87 y88 y89 y90 y91 y92 y93 y94 y95 y96 y97 y98 y99 y100 y101 y102 y103 y104 y105 y106 y107 y108 y109 y110 y111 y112 y113 y114 y115 y116 y117 y118 y119 y120 y121 y122 y123 y124 y125 y126 y127 y128 y129 y130 y131 y132 y133 y134 y135 y136 y137 y138 y139 y140 y141 y142 y143 y144 y145 y146 y147 y148 y149 y150 y151 y152 y153 y154 y155 y156 y157 y158 y159 y160 y161 y162 y163 y164 y165 y166 y167 y168 y169 y170 y171 y172 y173 y174 y175 y176 y177 y178 y179 y180 y181 y182 y183 y184 y185 y186 y187 y188 y189 y190 y191 y192 y193 y194 y195 y196 y197 y198 y199 y200 y201 y202 y203 y204 y205 y206 y207 y208 y209 y210 y211 y212 y213 y214 y215 y216 y217 y218 y219 y220 y221 y222 y223 y224 y225 y226 y227 y228 y229 y230 y231 y232 y233 y234 y235 y236 : Value) => bd_T3 C (Below.refl _ _) hnf hsm rfl rfl rfl rfl ho y0 y4 y5 y6 y13 y14 y15 y16 y17 y18 y19 y20 y21 y22 y23 y24 y25 y26 y27 y28 y29 y30 y31 y32 y33 y34 y35 y36 y37 y38 y39 y40 y41 y42 y43 y44 y45 y46 y47 y48 y49 y50 y51 y52 y53 y54 y55 y56 y57 y58 y59 y60 y61 y62 y63 y64 y65 y66 y67 y68 y69 y70 y71 y72 y73 y74 y75 y76 y77 y78 y79 y80 y81 y82 y83 y84 y85 y86 y87 y88 y89 y90 y91 y92 y93 y94 y95 y96 y97 y98 y99 y100 y101 y102 y103 y104 y105 y106 y107 y108 y109 y110 y111 y112 y113 y114 y115 y116 y117 y118 y119 y120 y121 y122 y123 y124 y125 y126 y127 y128 y129 y130 y131 y132 y133 y134 y135 y136 y137 y138 y139 y140 y141 y142 y143 y144 y145 y146 y147 y148 y149 y150 y151 y152 y153 y154 y155 y156 y157 y158 y159 y160 y161 y162 y163 y164 y165 y166 y167 y168 y169 y170 y171 y172 y173 y174 y175 y176 y177 y178 y179 y180 y181 y182 y183 y184 y185 y186 y187 y188 y189 y190 y191 y192 y193 y194 y195 y196 y197 y198 y199 y200 y201 y202 y203 y204 y205 y206 y207 y208 y209 y210 y211 y212 y213 y214 y215 y216 y217 y218 y219 y220 y221 y222 y223 y224 y225 y226 y227 y228 y229 y230 y231 y232 y233 y234 y235 y236
  have HT := Lib.hid hT
  have d := h00
  have d1 : W0.cell? ⟨w.heap.size, 1, none⟩ = some (.int .i64 k) := by simp [World.cell?, h00]
  have d2 : W0.cell? ⟨w.heap.size, 2, none⟩ = some (.int .i64 n) := by simp [World.cell?, h00]
  have d3 : W0.cell? ⟨w.heap.size, 3, none⟩ = some (.slice Aa ats.length ca) := by simp [World.cell?, h00]
  have d4 : W0.cell? ⟨w.heap.size, 4, none⟩ = some (.slice Ak ks.length ck) := by simp [World.cell?, h00]
  have d5 : W0.cell? ⟨w.heap.size, 5, none⟩ = some (.slice Al nb cb) := by simp [World.cell?, h00]
  have c0 : W1.cell? ⟨W0.heap.size, 0, none⟩ = some (.int .i64 k) := by simp [World.cell?, h11]
  clear hT hout ho C hB h11 hb1 h00 hb0 ha hk hl d
  go_enter Try.func39, Try.ntmps39
  show (Code.seq bdr0 (Code.seq bdr1 (Code.seq bdr2 bdT3))).wp Try.prog _ _ _
  obtain ⟨T3, hT3⟩ : ∃ T3, bdT3 = T3 := ⟨_, rfl⟩
  obtain ⟨Q, hQ⟩ : ∃ Q, (bodyPost Try.prog Try.f39 (IntBelow out w)) = Q := ⟨_, rfl⟩
  rw [hT3, hQ] at HT
  rw [hT3, hQ]
  clear hT3 hQ
  unfold bdr0 bdr1 bdr2 Try.f39
  dsimp only
  go_wp2_with fail
  refine HF.out.mono ?_
  rintro en w' ⟨rfl, rfl⟩
  dsimp only
  go_wp2_with fail
  exact HT.out _ _ _ _ _ _ _ _ _ _ _ _ _ _ _ _ _ _ _ _ _ _ _ _ _ _ _ _ _ _ _ _ _ _ _ _ _ _ _ _ _ _ _ _ _ _ _ _ _ _ _ _ _ _ _ _ _ _ _ _ _ _ _ _ _ _ _ _ _ _ _ _ _ _ _ _ _ _ _ _ _ _ _ _ _ _ _ _ _ _ _ _ _ _ _ _ _ _ _ _ _ _ _ _ _ _ _ _ _ _ _ _ _ _ _ _ _ _ _ _ _ _ _ _ _ _ _ _ _ _ _ _ _ _ _ _ _ _ _ _ _ _ _ _ _ _ _ _ _ _ _ _ _ _ _ _ _ _ _ _ _ _ _ _ _ _ _ _ _ _ _ _ _ _ _ _ _ _ _ _ _ _ _ _ _ _ _ _ _ _ _ _ _ _ _ _ _ _ _ _ _ _ _ _ _ _ _ _ _ _ _ _ _ _ _ _ _ _ _ _ _ _ _ _ _ _ _ _
end Go.Proofs.Ytnobggabjpcbfaa

/-
  camletref30.block: what it answers behind its binds.
-/
set_option linter.unusedVariables false
set_option linter.unusedSimpArgs false
namespace Go.Proofs.Ytnobggabjpcbfaa
open Go.RowKit Go.Maps

noncomputable def bkT18 : Code := match Try.f26.body with
  | some (.seq _ (.seq _ c)) => c
  | _ => .skip
set_option maxRecDepth 100000 in
set_option maxHeartbeats 8000000 in
theorem bk_T18 {w V : World} {X3 tl c : Nat} {A A' : Option Addr} {c' : Nat} {l' : List Int} {out ln : Int} {lv : Bool} (hB : Below w.heap.size w V) (h0 : V.cell? ⟨X3, 0, none⟩ = some (.slice A tl c)) (h1 : V.cell? ⟨X3, 1, none⟩ = some (.bool lv)) (h2 : V.cell? ⟨X3, 2, none⟩ = some (.int .i64 ln)) (hl : IntsIn V.heap.size V A' l') (hlc : l'.length ≤ c')
    (hout : out = if atomB ⟨lv, ln⟩ = false then 2 else if asksB l' ⟨lv, ln⟩ = false then 16 else 0) (u0 u1 u4 u5 u6 u7 u8 u9 u10 u11 u12 u13 u14 u15 u16 u17 u18 u19 u20 u21 u22 u23 u24 u25 u26 u27 u28 u29 u30 u31 u32 u33 u34 u35 u36 u37 u38 u39 u40 u41 u42 u43 u44 u45 u46 u47 u48 u49 u50 u51 u52 u53 u54 u55 u56 u57 u58 u59 u60 u61 u62 u63 u64 u65 u66 u67 u68 u69 u70 u71 u72 u73 u74 u75 u76 u77 u78 u79 u80 u81 u82 u83 u84 u85 u86 u87 u88 u89 u90 u91 u92 u93 u94 u95 u96 u97 : Value) :
    bkT18.wp Try.prog (bodyPost Try.prog Try.f26 (IntBelow out w)) { tmps := #[u0, u1, .slice A' l'.length c', .pointer (some ⟨X3, 0, none⟩), u4, u5, u6, u7, u8, u9, u10, u11, u12, u13, u14, u15, u16, u17, u18, u19, u20, u21, u22, u23, u24, u25, u26, u27, u28, u29, u30, u31, u32, u33, u34, u35, u36, u37, u38, u39, u40, u41, u42, u43, u44, u45, u46, u47, u48, u49, u50, u51, u52, u53, u54, u55, u56, u57, u58, u59, u60, u61, u62, u63, u64, u65, u66, u67, u68, u69, u70, u71, u72, u73, u74, u75, u76, u77, u78, u79, u80, u81, u82, u83, u84, u85, u86, u87, u88, u89, u90, u91, u92, u93, u94, u95, u96, u97], defers := [] } V := by
  have HB := Lib.hid hB
  have HH := Lib.hid (fun (V2 : World) (h : Below V.heap.size V V2) => rhas_any A' c' l' ln V2 ((hl.below h).mono h.size) hlc)
  have HO := Lib.hid hout
  have HL := Lib.hid (show ∀ V2, Below V.heap.size V V2 → V2.cell? ⟨X3, 1, none⟩ = some (.bool lv) ∧ V2.cell? ⟨X3, 2, none⟩ = some (.int .i64 ln) from fun V2 h => ⟨cell_behind h h1, cell_behind h h2⟩)
  have HWR := Lib.hid (fun (v : World) => (show Calls Try.prog 41 #[.int .i64 ln] v fun e w' => e = .returned (.int .i64 (wrap31 ln)) ∧ w' = v from (rwrap_any ln v).mono fun e w' h => ⟨h.1, h.2.symm⟩))
  clear hB hl hlc hout
  obtain ⟨Q, hQ⟩ : ∃ Q, (bodyPost Try.prog Try.f26 (IntBelow out w)) = Q := ⟨_, rfl⟩
  have HQ := Lib.hid hQ
  rw [hQ]
  clear hQ
  unfold bkT18 Try.f26
  dsimp only
  cases lv
  · cases hin : inB ln (-1073741824) 1073741823
    · have HF := Lib.hid (show out = 2 from HO.out.trans (by simp [atomB, hin]))
      have hne : (wrap31 ln != ln) = true := by simpa using wrap31_out hin
      clear hin
      generalize wrap31 ln = z at *
      go_wp2_with fail
      go_quiet ((go_at_call 41; exact Calls.quiet_of_same (HWR.out _)))
      go_wp2_with fail
      rw [← HQ.out]
      go_ret
      exact ⟨ret_int HF.out.symm, below_drewN HB.out _⟩
    · have HF := Lib.hid (show out = 0 from HO.out.trans (by simp [atomB, hin, asksB]))
      have hne : (wrap31 ln != ln) = false := by simpa using wrap31_in hin
      clear hin
      generalize wrap31 ln = z at *
      go_wp2_with fail
      go_quiet ((go_at_call 41; exact Calls.quiet_of_same (HWR.out _)))
      go_wp2_with fail
      rw [← HQ.out]
      go_ret
      exact ⟨ret_int HF.out.symm, below_drewN HB.out _⟩
  · have HM := Lib.hid (show ∀ V2, Below V.heap.size V V2 → Calls Try.prog 42 #[.slice A' l'.length c', .int .i64 ln] V2 fun e w' => e = .returned (.bool (l'.contains ln)) ∧ V2 = w' from HH.out)
    have HO2 := Lib.hid (show out = if l'.contains ln = false then 16 else 0 from HO.out.trans (by simp [atomB, asksB]))
    clear HO HH
    generalize l'.contains ln = cb_ at *
    generalize l'.length = ll at *
    cases cb_
    · have HF := Lib.hid (show out = 16 from HO2.out)
      go_wp2_with fail
      go_quiet (fail)
      go_wp2_with (go_at_call 42; refine (HM.out _ (below_drewN (Below.refl _ _) _)).mono ?_; rintro en w' ⟨rfl, rfl⟩; dsimp only)
      rw [← HQ.out]
      go_ret
      exact ⟨ret_int HF.out.symm, below_drewN HB.out _⟩
    · have HF := Lib.hid (show out = 0 from HO2.out)
      go_wp2_with fail
      go_quiet (fail)
      go_wp2_with (go_at_call 42; refine (HM.out _ (below_drewN (Below.refl _ _) _)).mono ?_; rintro en w' ⟨rfl, rfl⟩; dsimp only)
      rw [← HQ.out]
      go_ret
      exact ⟨ret_int HF.out.symm, below_drewN HB.out _⟩
end Go.Proofs.Ytnobggabjpcbfaa

/-
  camletref30.block: its contract.
-/
set_option linter.unusedVariables false
set_option linter.unusedSimpArgs false
namespace Go.Proofs.Ytnobggabjpcbfaa
open Go.RowKit Go.Maps

theorem asks_same {l k : List Int} (h : ∀ x, l.contains x = k.contains x) (a : Atm) : asksB l a = asksB k a := by simp only [asksB, h]
theorem asks_all {l k : List Int} (h : ∀ x, l.contains x = k.contains x) (ats : List Atm) : ats.all (asksB l) = ats.all (asksB k) := by
  congr 1
  funext a
  exact asks_same h a
theorem app_same {l k : List Int} (g : List Int) (h : ∀ x, l.contains x = k.contains x) : ∀ x, (g ++ l).contains x = (g ++ k).contains x := fun x => by
  have := h x
  simp only [List.contains_eq_mem, List.mem_append, Bool.decide_or] at this ⊢
  rw [this]
mutual
theorem bodyE_same {nf : Nat} : ∀ (t : Anf) {l k : List Int}, (∀ x, l.contains x = k.contains x) → bodyE nf l t = bodyE nf k t
  | .ret a, l, k, h => by
    unfold bodyE
    rw [asks_same h]
  | .bind x k n ats ks bl rest, l, m, h => by
    have h10 : ∀ y, (if k = 10 then groupV ks ++ l else l).contains y = (if k = 10 then groupV ks ++ m else m).contains y := by
      by_cases hk : k = 10
      · rw [if_pos hk, if_pos hk]; exact app_same _ h
      · rw [if_neg hk, if_neg hk]; exact h
    have h11 : ∀ y, (if k = 10 then groupV ks ++ l else x :: l).contains y = (if k = 10 then groupV ks ++ m else x :: m).contains y := by
      by_cases hk : k = 10
      · rw [if_pos hk, if_pos hk]; exact app_same _ h
      · rw [if_neg hk, if_neg hk]; exact app_same [x] h
    unfold bodyE
    rw [asks_all h10, blocksE_same bl h10, bodyE_same rest h11]
theorem blocksE_same {nf : Nat} : ∀ (cs : List Anf) {l k : List Int}, (∀ x, l.contains x = k.contains x) → blocksE nf l cs = blocksE nf k cs
  | [], l, k, h => by unfold blocksE; rfl
  | c :: cs, l, k, h => by
    unfold blocksE
    rw [bodyE_same c h, blocksE_same cs h]
end
theorem group_head {nf : Nat} {x n : Int} {ats : List Atm} {ks : List Int} {nb : Nat} (h : BindOk nf x 10 n ats ks nb) : x ∈ groupV ks := by
  have h1 := h.count
  unfold countB at h1
  simp only [show ¬ ((10 : Int) = 6) by decide, show ¬ ((10 : Int) = 2 ∧ twoF n = true) by simp, show ¬ ((10 : Int) = 3) by decide, show ¬ ((10 : Int) = 9) by decide, show ¬ ((10 : Int) = 8) by decide, if_false, if_true, Bool.and_eq_true, decide_eq_true_eq, beq_iff_eq] at h1
  have h3 := h1.1.1.1.2
  have hx := h1.2
  match ks, h3, hx with
  | a :: b :: c :: r, _, hx =>
    simp [nth] at hx
    simp [groupV, hx]
/-- what block answers at a bind -/
theorem block_bind {nf : Nat} {l : List Int} {x k n : Int} {ats : List Atm} {ks : List Int} {bl : List Anf} {rest : Anf} : bodyE nf l (.bind x k n ats ks bl rest) = if bindR nf x k n ats ks l bl.length ≠ 0 then bindR nf x k n ats ks l bl.length else if blocksE nf l bl ≠ 0 then blocksE nf l bl else bodyE nf (l ++ (if k = 10 then groupV ks else []) ++ [x]) rest := by
  have hsame : ats.all (asksB (if k = 10 then l ++ groupV ks else l)) = ats.all (asksB (if k = 10 then groupV ks ++ l else l)) := by
    refine asks_all (fun y => ?_) ats
    by_cases hk : k = 10
    · rw [if_pos hk, if_pos hk]
      simp only [List.contains_eq_mem, List.mem_append, decide_eq_decide]
      exact Or.comm
    · rw [if_neg hk, if_neg hk]
  unfold bindR
  rw [hsame]
  by_cases hb : bindE nf x k n ats ks bl.length = 0
  · rw [bodyE_bind hb]
    have hok := bindOk_of hb
    rw [hb]
    simp only [ne_eq, not_true_eq_false, if_false]
    by_cases ha : ats.all (asksB (if k = 10 then groupV ks ++ l else l)) = false
    · rw [if_pos ha, if_pos ha]
      simp
    · rw [if_neg ha, if_neg ha]
      simp only [not_true_eq_false, if_false]
      by_cases hk : k = 10
      · subst hk
        obtain rfl := bind_noblocks hok (by decide)
        simp only [if_true, blocksE, ne_eq, not_true_eq_false, if_false]
        refine bodyE_same rest (fun y => ?_)
        have hm := group_head hok
        simp only [List.contains_eq_mem, List.mem_append, decide_eq_decide, List.mem_singleton]
        constructor
        · rintro (h | h)
          · exact .inl (.inr h)
          · exact .inl (.inl h)
        · rintro ((h | h) | h)
          · exact .inr h
          · exact .inl h
          · exact .inl (h ▸ hm)
      · simp only [if_neg hk]
        by_cases hbl : blocksE nf l bl = 0
        · simp only [hbl, ne_eq, not_true_eq_false, if_false, List.append_nil]
          refine bodyE_same rest (fun y => ?_)
          simp only [List.contains_eq_mem, List.mem_append, decide_eq_decide, List.mem_cons, List.not_mem_nil, or_false]
          exact Or.comm
        · simp only [ne_eq, hbl, not_false_eq_true, if_true]
  · rw [bodyE_wrong hb]
    simp only [ne_eq, hb, not_false_eq_true, if_true]
noncomputable def bkr0 : Code := match Try.f26.body with
  | some (.seq c _) => c
  | _ => .skip
noncomputable def bkL : Code := match Try.f26.body with
  | some (.seq _ (.seq c _)) => c
  | _ => .skip
/-- what stands behind some binds -/
structure BkS (nf : Nat) (W0 : World) (t : Anf) (out : Int) (j : Nat) (A' : Option Addr) (c' : Nat) (l' l : List Int) (wr : World) : Prop where
  bel : Below W0.heap.size W0 wr
  ints : IntsIn wr.heap.size wr A' l'
  cap : l'.length ≤ c'
  out : out = bodyE nf l' (t.tail j)
  b : l'.length + szA (t.tail j) ≤ l.length + szA t
theorem own_none {base : Nat} {e : TypeId} {w : World} {v : Value} {n m : Nat} {xs : List Value} (h : w.ownsRow base e 1 v n xs) (hn : n = m) : w.ownsRow base e 1 v m xs := hn ▸ h
theorem own_below {w w' : World} {base : Nat} {e : TypeId} {size : Nat} {v : Value} {n : Nat} {xs : List Value} (h : w.ownsRow base e size v n xs) (hb : Below w.heap.size w w') : w'.ownsRow base e size v n xs := ownsRow_same h (fun k hk => hb.block k (h.lt k hk).2)
set_option maxRecDepth 100000 in
set_option maxHeartbeats 8000000 in
theorem rblock_any {nf : Nat} (hnf : nf ≤ 1000000) {B : Nat} (t : Anf) : ∀ (l : List Int) (w : World) (v : Array Value) (A2 : Option Addr) (c2 : Nat), BodyIn B w t v → B ≤ w.heap.size → IntsIn w.heap.size w A2 l → l.length ≤ c2 → l.length + szA t ≤ 1000000000 →
    Calls Try.prog 26 #[.agg v, .int .i64 (nf : Int), .slice A2 l.length c2] w (IntBelow (bodyE nf l t) w) := by
  induction hs : SizeOf.sizeOf t using Nat.strongRecOn generalizing t with
  | _ sz ih =>
    subst hs
    intro l w v A2 c2 hin hBW hl hlc hb
    obtain ⟨A, c, b, o, rfl, hc, h96, hA, hB⟩ := hin.at_
    obtain ⟨W0, hW0⟩ : ∃ W0, w.alloc (.cells #[.slice A t.len c, .bool t.last.v, .int .i64 t.last.n] 27) = W0 := ⟨_, rfl⟩
    have hb0 : Below w.heap.size w W0 := by rw [← hW0]; exact (Below.refl _ _).alloc (Nat.le_refl _) _
    have hs0 : W0.heap.size = w.heap.size + 1 := by rw [← hW0]; simp
    have hn0 : W0.heap[w.heap.size]? = some (.cells #[.slice A t.len c, .bool t.last.v, .int .i64 t.last.n] 27 (0, 0)) := by rw [← hW0]; exact World.alloc_heap_new w _
    have HC := Lib.hid (fun (V : World) (hV : Below W0.heap.size W0 V) => (show V.cell? ⟨w.heap.size, 0, none⟩ = some (.slice A t.len c) ∧ V.cell? ⟨w.heap.size, 1, none⟩ = some (.bool t.last.v) ∧ V.cell? ⟨w.heap.size, 2, none⟩ = some (.int .i64 t.last.n) from
      ⟨(hV.cell (p := ⟨_, _, none⟩) (by simp; omega)).trans (by simp [World.cell?, hn0]), (hV.cell (p := ⟨_, _, none⟩) (by simp; omega)).trans (by simp [World.cell?, hn0]), (hV.cell (p := ⟨_, _, none⟩) (by simp; omega)).trans (by simp [World.cell?, hn0])⟩))
    obtain ⟨cB, cC, cD⟩ := HC.out W0 (Below.refl _ _)
    have HBV := Lib.hid (fun (V : World) (hV : Below W0.heap.size W0 V) => (show Below B w V ∧ Below w.heap.size w V ∧ B ≤ V.heap.size from
      ⟨(hb0.mono hBW).trans (hV.mono (by omega)), hb0.trans (hV.mono hb0.size), by have := hV.size; omega⟩))
    have HBI := Lib.hid (fun (j : Nat) (hj : j < t.len) (V : World) (hV : Below W0.heap.size W0 V) =>
      (show ∃ x k nn ats ks bl Aa ca Ak ck Al cl, A = some ⟨b, o, none⟩ ∧ t.tail j = .bind x k nn ats ks bl (t.tail (j + 1)) ∧ (V.cell? ⟨b, o + j * 6, none⟩ = some (.int .i64 x) ∧ V.cell? ⟨b, o + j * 6 + 1, none⟩ = some (.int .i64 k) ∧ V.cell? ⟨b, o + j * 6 + 2, none⟩ = some (.int .i64 nn) ∧
          V.cell? ⟨b, o + j * 6 + 3, none⟩ = some (.slice Aa ats.length ca) ∧ V.cell? ⟨b, o + j * 6 + 4, none⟩ = some (.slice Ak ks.length ck) ∧ V.cell? ⟨b, o + j * 6 + 5, none⟩ = some (.slice Al bl.length cl)) ∧
          Hid (∀ V2 : World, Below W0.heap.size W0 V2 → AtomsIn V2.heap.size V2 Aa ats ∧ IntsIn V2.heap.size V2 Ak ks) ∧ ats.length ≤ ca ∧ ks.length ≤ ck ∧ bl.length ≤ cl ∧ bl.length * 40 ≤ 140737488351232 ∧
          Hid (∀ q (hq : q < bl.length) (V2 : World), Below W0.heap.size W0 V2 → ∃ bb oo A0 n0 c0 r0 r1, Al = some ⟨bb, oo, none⟩ ∧ V2.cell? ⟨bb, oo + q * 3, none⟩ = some (.slice A0 n0 c0) ∧ V2.cell? ⟨bb, oo + q * 3 + 1, none⟩ = some (.bool r0) ∧ V2.cell? ⟨bb, oo + q * 3 + 2, none⟩ = some (.int .i64 r1) ∧
            ∀ (V3 : World) (A3 : Option Addr) (c3 : Nat) (l3 : List Int), Below W0.heap.size W0 V3 → IntsIn V3.heap.size V3 A3 l3 → l3.length ≤ c3 → l3.length + szA bl[q] ≤ 1000000000 → Calls Try.prog 26 #[.agg #[.slice A0 n0 c0, .bool r0, .int .i64 r1], .int .i64 (nf : Int), .slice A3 l3.length c3] V3 (IntBelow (bodyE nf l3 bl[q]) V3)) from by
        obtain ⟨x, k, nn, ats, ks, bl, Aa, ca, Ak, ck, Al, cl, h1, h2⟩ := hB j hj
        have hbV := (HBV.out V hV).1
        refine ⟨x, k, nn, ats, ks, bl, Aa, ca, Ak, ck, Al, cl, hA (by omega), h1, ⟨(hbV.cell (p := ⟨_, _, none⟩) h2.lt).trans h2.c0, (hbV.cell (p := ⟨_, _, none⟩) h2.lt).trans h2.c1, (hbV.cell (p := ⟨_, _, none⟩) h2.lt).trans h2.c2, (hbV.cell (p := ⟨_, _, none⟩) h2.lt).trans h2.c3, (hbV.cell (p := ⟨_, _, none⟩) h2.lt).trans h2.c4, (hbV.cell (p := ⟨_, _, none⟩) h2.lt).trans h2.c5⟩,
          Lib.hid (fun V2 hV2 => ⟨(h2.ha.below (HBV.out V2 hV2).1).mono (HBV.out V2 hV2).2.2, (h2.hk.below (HBV.out V2 hV2).1).mono (HBV.out V2 hV2).2.2⟩), h2.hac, h2.hkc, h2.hlc, h2.hl8, Lib.hid (fun q hq V2 hV2 => ?_)⟩
        obtain ⟨bb, oo, g0, g1, g2, e1, e2, e3, e4, e5, hbd⟩ := h2.blk q hq
        have hbV2 := (HBV.out V2 hV2).1
        have hbd0 := hbd
        obtain ⟨A0, d0, b0, o0, hvv, -⟩ := hbd.at_
        simp only [Array.mk.injEq, List.cons.injEq, and_true] at hvv
        obtain ⟨rfl, rfl, rfl⟩ := hvv
        refine ⟨bb, oo, A0, _, d0, _, _, e1, (hbV2.cell (p := ⟨_, _, none⟩) e2).trans e3, (hbV2.cell (p := ⟨_, _, none⟩) e2).trans e4, (hbV2.cell (p := ⟨_, _, none⟩) e2).trans e5, fun V3 A3 c3 l3 hV3 hi3 hc3 hl3 => ?_⟩
        exact ih _ (size_block h1 (List.getElem_mem hq)) bl[q] rfl l3 V3 _ A3 c3 (hbd0.kept (HBV.out V3 hV3).1) (HBV.out V3 hV3).2.2 hi3 hc3 hl3))
    have HT := Lib.hid (Anf.tail_ret t)
    obtain ⟨out, hout⟩ : ∃ o, bodyE nf l t = o := ⟨_, rfl⟩
    have HST := Lib.hid (show BkS nf W0 t out 0 A2 c2 l l W0 from ⟨Below.refl _ _, (hl.below hb0).mono hb0.size, hlc, by rw [Anf.tail_zero]; exact hout.symm, by rw [Anf.tail_zero]; simp⟩)
    have HB := Lib.hid hb
    rw [hout]
    have HS0 := Lib.hid hs0
    have HT64 := Lib.hid h96
    have H18 := Lib.hid (fun (V : World) (A' : Option Addr) (c' : Nat) (l' : List Int) (hV : Below W0.heap.size W0 V) (hi : IntsIn V.heap.size V A' l') (hcc : l'.length ≤ c') (ho : out = if atomB ⟨t.last.v, t.last.n⟩ = false then 2 else if asksB l' ⟨t.last.v, t.last.n⟩ = false then 16 else 0) (y0 y1 y4 y5 y6 y7 y8 y9 y10 y11 y12 y13 y14 y15 y16 y17 y18 y19 y20 y21 y22 y23 y24 y25 y26 y27 y28 y29 y30 y31 y32 y33 y34 y35 y36 y37 y38 y39 y40 y41 y42 y43 y44 y45 y46 y47 y48 y49 y50 y51 y52 y53 y54 y55 y56 y57 y58 y59 y60 y61 y62 y63 y64 y65 y66 y67 y68 y69 y70 y71 y72 y73 y74 y75 y76 y77 y78 y79 y80 y81 y82 y83 y84 y85 y86 y87 y88 y89 y90 y91 y92 y93 y94 y95 y96 y97 : Value) => bk_T18 (HBV.out V hV).2.1 (HC.out V hV).1 (HC.out V hV).2.1 (HC.out V hV).2.2 hi hcc ho y0 y1 y4 y5 y6 y7 y8 y9 y10 y11 y12 y13 y14 y15 y16 y17 y18 y19 y20 y21 y22 y23 y24 y25 y26 y27 y28 y29 y30 y31 y32 y33 y34 y35 y36 y37 y38 y39 y40 y41 y42 y43 y44 y45 y46 y47 y48 y49 y50 y51 y52 y53 y54 y55 y56 y57 y58 y59 y60 y61 y62 y63 y64 y65 y66 y67 y68 y69 y70 y71 y72 y73 y74 y75 y76 y77 y78 y79 y80 y81 y82 y83 y84 y85 y86 y87 y88 y89 y90 y91 y92 y93 y94 y95 y96 y97)
    clear hin hBW hl hlc hb hB ih hA hn0 hb0 hs0 hout
    obtain ⟨T, hT⟩ : ∃ T, t.len = T := ⟨_, rfl⟩
    rw [hT] at hc HC HBI HT HT64 cB hW0 ⊢
    clear hT h96
    go_enter Try.func26, Try.ntmps26
    show (Code.seq bkr0 (Code.seq bkL bkT18)).wp Try.prog _ _ _
    obtain ⟨T18, hT18⟩ : ∃ c, bkT18 = c := ⟨_, rfl⟩
    obtain ⟨Q, hQ⟩ : ∃ Q, (bodyPost Try.prog Try.f26 (IntBelow out w)) = Q := ⟨_, rfl⟩
    rw [hT18, hQ] at H18
    rw [hT18, hQ]
    have HQ := Lib.hid hQ
    clear hT18 hQ
    obtain ⟨i0, hinf, hz0, hz1, hz2⟩ := info_parts infoI
    unfold bkr0 bkL Try.f26
    dsimp only
    go_wp2_with fail
    go_loopw [2, 7] (fun kv iv wr => ∃ (j : Nat) (A' : Option Addr) (c' : Nat) (l' : List Int), j ≤ T ∧ iv = .int .i64 (j : Int) ∧ kv = .slice A' l'.length c' ∧ Hid (BkS nf W0 t out j A' c' l' l wr)) (fun _ iv _ => T + 1 - (intOf iv).toNat)
    case atStart => exact ⟨0, A2, c2, l, by omega, rfl, rfl, HST⟩
    case round =>
      obtain ⟨wo, rfl⟩ : ∃ wo, wo = wr := ⟨_, rfl⟩
      obtain ⟨j, A', c', l', hj, rfl, rfl, HJ⟩ := hrel
      obtain ⟨r1, r2, r3⟩ := HC.out wo HJ.out.bel
      by_cases hlt : j < T
      · obtain ⟨x, k, n2, ats, ks, bl, Aa, ca, Ak, ck, Al, cl, rfl, htail, ⟨s0, s1, s2, s3, s4, s5⟩, HLI, hac, hkc, hblc, hb40, HBL⟩ := HBI.out j hlt wo HJ.out.bel
        have e1 : (0 : Int) ≤ (j : Int) := by omega
        have e2 : (j : Int) < (T : Int) := by omega
        have e4 : IntKind.i64.wrap ((j : Int) + 1) = (j : Int) + 1 := by rw [IntKind.wrap_i64]; have := HT64.out; omega
        have e5 : (T : Int) ≤ (c : Int) := by omega
        have hsz : szA (t.tail j) = 1 + ks.length + szL bl + szA (t.tail (j + 1)) := by rw [htail]; rfl
        have HSZ := Lib.hid (show l'.length + (1 + ks.length + szL bl + szA (t.tail (j + 1))) ≤ l.length + szA t ∧ l'.length + (1 + ks.length + szL bl + szA (t.tail (j + 1))) ≤ 1000000000 from by have h1 := HJ.out.b; have h2 := HB.out; omega)
        have HBD := Lib.hid (rbind_any hnf x k n2 (Al := Al) (nb := bl.length) (cb := cl) (HLI.out wo HJ.out.bel).1 hac (HLI.out wo HJ.out.bel).2 hkc HJ.out.ints HJ.out.cap (by have := HSZ.out; omega))
        have HOUT := Lib.hid ((HJ.out.out.trans (congrArg (bodyE nf l') htail)).trans block_bind)
        clear htail hsz
        obtain ⟨be, hbe⟩ : ∃ z, bindR nf x k n2 ats ks l' bl.length = z := ⟨_, rfl⟩
        rw [hbe] at HBD HOUT
        clear hbe
        go_wp2_with fail
        refine HBD.out.mono ?_
        rintro en w2 ⟨rfl, hb2⟩
        dsimp only
        have HB2 := Lib.hid (HJ.out.bel.trans (hb2.mono HJ.out.bel.size))
        have HI2 := Lib.hid ((HJ.out.ints.below hb2).mono hb2.size)
        obtain ⟨x0, x1, x2⟩ := HC.out w2 HB2.out
        obtain ⟨p0, p1, p2, p3, p4, p5⟩ := (show w2.cell? ⟨b, o + j * 6, none⟩ = some (.int .i64 x) ∧ w2.cell? ⟨b, o + j * 6 + 1, none⟩ = some (.int .i64 k) ∧ w2.cell? ⟨b, o + j * 6 + 2, none⟩ = some (.int .i64 n2) ∧ w2.cell? ⟨b, o + j * 6 + 3, none⟩ = some (.slice Aa ats.length ca) ∧ w2.cell? ⟨b, o + j * 6 + 4, none⟩ = some (.slice Ak ks.length ck) ∧ w2.cell? ⟨b, o + j * 6 + 5, none⟩ = some (.slice Al bl.length cl) from ⟨cell_behind hb2 s0, cell_behind hb2 s1, cell_behind hb2 s2, cell_behind hb2 s3, cell_behind hb2 s4, cell_behind hb2 s5⟩)
        clear hb2 HBD s0 s1 s2 s3 s4 s5 r1 r2 r3
        by_cases hz : be = 0
        · subst hz
          have HO2 := Lib.hid (show out = if blocksE nf l' bl ≠ 0 then blocksE nf l' bl else bodyE nf (l' ++ (if k = 10 then groupV ks else []) ++ [x]) (t.tail (j + 1)) from HOUT.out.trans (by simp))
          clear HOUT
          obtain ⟨W3, hW3⟩ : ∃ W3, w2.alloc (.cells #[.int .i64 k, .int .i64 n2, .slice Aa ats.length ca, .slice Ak ks.length ck, .slice Al bl.length cl] 52) = W3 := ⟨_, rfl⟩
          have hb3 : Below w2.heap.size w2 W3 := by rw [← hW3]; exact (Below.refl _ _).alloc (Nat.le_refl _) _
          have hn3 : W3.heap[w2.heap.size]? = some (.cells #[.int .i64 k, .int .i64 n2, .slice Aa ats.length ca, .slice Ak ks.length ck, .slice Al bl.length cl] 52 (0, 0)) := by rw [← hW3]; exact World.alloc_heap_new w2 _
          have HS3 := Lib.hid (show w2.heap.size < W3.heap.size from by rw [← hW3]; simp)
          have HB3 := Lib.hid (HB2.out.trans (hb3.mono HB2.out.size))
          have HI3 := Lib.hid ((HI2.out.below hb3).mono hb3.size)
          have HD := Lib.hid (fun (V : World) (hV : Below W3.heap.size W3 V) => (show (V.cell? ⟨w2.heap.size, 0, none⟩ = some (.int .i64 k) ∧ V.cell? ⟨w2.heap.size, 1, none⟩ = some (.int .i64 n2) ∧ V.cell? ⟨w2.heap.size, 2, none⟩ = some (.slice Aa ats.length ca) ∧ V.cell? ⟨w2.heap.size, 3, none⟩ = some (.slice Ak ks.length ck) ∧ V.cell? ⟨w2.heap.size, 4, none⟩ = some (.slice Al bl.length cl)) ∧ V.cell? ⟨b, o + j * 6, none⟩ = some (.int .i64 x) from by
            have h := (hV.block w2.heap.size HS3.out).trans hn3
            exact ⟨⟨by simp [World.cell?, h], by simp [World.cell?, h], by simp [World.cell?, h], by simp [World.cell?, h], by simp [World.cell?, h]⟩, cell_behind hV (cell_behind hb3 p0)⟩))
          have HIV := Lib.hid (fun (V : World) (hV : Below W3.heap.size W3 V) => (show Below W0.heap.size W0 V ∧ IntsIn V.heap.size V A' l' from ⟨HB3.out.trans (hV.mono HB3.out.size), (HI3.out.below hV).mono hV.size⟩))
          clear hb3 hn3
          go_wp2_with fail
          go_loopw [8, 10] (fun ev iv wr2 => ∃ q : Nat, q ≤ bl.length ∧ iv = .int .i64 (q : Int) ∧ ev = .int .i64 0 ∧ Hid (Below W3.heap.size W3 wr2) ∧ Hid (blocksE nf l' bl = blocksE nf l' (bl.drop q))) (fun _ iv _ => bl.length + 1 - (intOf iv).toNat)
          case atStart => exact ⟨0, by omega, rfl, rfl, Lib.hid (Below.refl _ _), Lib.hid (by simp)⟩
          case round =>
            obtain ⟨wq, rfl⟩ : ∃ wq, wq = wr := ⟨_, rfl⟩
            obtain ⟨q, hq, rfl, rfl, HQ3, HBQ⟩ := hrel
            obtain ⟨⟨f0, f1, f2, f3, f4⟩, f5⟩ := HD.out wq HQ3.out
            obtain ⟨g1, g2, g3⟩ := HC.out wq (HIV.out wq HQ3.out).1
            by_cases hlq : q < bl.length
            · obtain ⟨bb, oo, A0, n0, c0', r0', r1', rfl, v0, v1, v2, hcall⟩ := HBL.out q hlq wq (HIV.out wq HQ3.out).1
              have HCALL := Lib.hid (hcall wq A' c' l' (HIV.out wq HQ3.out).1 (HIV.out wq HQ3.out).2 HJ.out.cap (by have h1 := HSZ.out.2; have h3 := szL_at (bl := bl) _ (List.getElem_mem hlq); omega))
              have HBS := Lib.hid (HBQ.out.trans (blocksE_drop hlq))
              have d1 : (0 : Int) ≤ (q : Int) := by omega
              have d2 : (q : Int) < (bl.length : Int) := by omega
              have d3 : (bl.length : Int) ≤ (cl : Int) := by omega
              have d4 : IntKind.i64.wrap ((q : Int) + 1) = (q : Int) + 1 := by rw [IntKind.wrap_i64]; omega
              obtain ⟨ez, hez⟩ : ∃ z, bodyE nf l' bl[q] = z := ⟨_, rfl⟩
              rw [hez] at HCALL HBS
              clear hcall hez
              go_wp2_with fail
              refine HCALL.out.mono ?_
              rintro en w5 ⟨rfl, hb5⟩
              dsimp only
              have HQ5 := Lib.hid (HQ3.out.trans (hb5.mono HQ3.out.size))
              clear hb5 HCALL
              by_cases hz5 : ez = 0
              · subst hz5
                have HBN := Lib.hid (show blocksE nf l' bl = blocksE nf l' (bl.drop (q + 1)) from HBS.out.trans (by simp))
                clear HBS
                go_wp2_with fail
                go_roundw
                case rel => exact ⟨q + 1, by omega, by go_num, rfl, HQ5, HBN⟩
                case measure => simp [intOf]; omega
              · have HF := Lib.hid (show out = ez from by
                  have h1 : blocksE nf l' bl = ez := HBS.out.trans (by rw [if_pos hz5])
                  exact HO2.out.trans (by rw [h1, if_pos hz5]))
                have hz6 : (ez == 0) = false := by simpa using hz5
                have hz7 : (ez != 0) = true := by simpa using hz5
                clear hz5 HBS
                go_wp2_with fail
                rw [← HQ.out]
                go_ret
                exact ⟨ret_int HF.out.symm, (HBV.out _ (HIV.out _ HQ5.out).1).2.1⟩
            · have f2' : ¬ (q : Int) < (bl.length : Int) := by omega
              have HO3 := Lib.hid (show out = bodyE nf (l' ++ (if k = 10 then groupV ks else []) ++ [x]) (t.tail (j + 1)) from HO2.out.trans (by
                have h1 := HBQ.out
                rw [List.drop_of_length_le (by omega)] at h1
                have h2 : blocksE nf l' bl = 0 := h1
                rw [if_neg (by simp [h2])]))
              have HWQ := Lib.hid (HIV.out wq HQ3.out)
              have HLL := Lib.hid (rfl : l'.length = l'.length)
              have HVAR := Lib.hid (fun (V2 : World) (h : Below wq.heap.size wq V2) => rvars_any k n2 Aa Ak Al ats.length ca ck bl.length cl ks V2 (HLI.out V2 (HWQ.out.1.trans (h.mono HWQ.out.1.size))).2 hkc)
              have HGL := Lib.hid (groupV_len ks)
              obtain ⟨W6, hW6⟩ : ∃ W6, wq.alloc (.cells #[] 3) = W6 := ⟨_, rfl⟩
              have HB6 := Lib.hid (show Below wq.heap.size wq W6 from by rw [← hW6]; exact (Below.refl _ _).alloc (Nat.le_refl _) _)
              have HOE := Lib.hid (show W6.ownsRow wq.heap.size 3 1 (.slice (some ⟨wq.heap.size, 0, none⟩) 0 0) 0 [] from by rw [← hW6]; exact own_empty wq (Nat.le_refl _) _ _)
              have HR6 := Lib.hid (ints_row (HWQ.out.2.below HB6.out))
              have hml0 : 0 + l'.length ≤ maxLen := by have := HSZ.out.2; unfold maxLen; omega
              have hmb0 : (0 + l'.length) * 8 ≤ 140737488355328 := by have := HSZ.out.2; omega
              by_cases hk : k = 10
              · subst hk
                obtain ⟨G, hG⟩ : ∃ G, groupV ks = G := ⟨_, rfl⟩
                rw [hG] at HVAR HO3 HGL
                clear hG
                have hml2 : 0 + l'.length + G.length ≤ maxLen := by have := HSZ.out.2; have := HGL.out; unfold maxLen; omega
                have hmb2 : (0 + l'.length + G.length) * 8 ≤ 140737488355328 := by have := HSZ.out.2; have := HGL.out; omega
                have hml3 : 0 + l'.length + G.length + 1 ≤ maxLen := by have := HSZ.out.2; have := HGL.out; unfold maxLen; omega
                have hmb3 : (0 + l'.length + G.length + 1) * 8 ≤ 140737488355328 := by have := HSZ.out.2; have := HGL.out; omega
                go_wp2_with (at_builtin; (refine wpList_append_row _ rfl _ _ 30 rfl wq.heap.size 3 i0 (.int .i64 0) 1 8 undI hinf hz0 hz1 hz2 rfl (by decide) _ 0 [] rfl HOE.out A' l'.length c' (iv l') rfl (by simp [iv]) HR6.out (iv_one l') hml0 hmb0 HB6.out.size ?_; intro v7 w7 hown_ hgrow_ hat_; have HQ7 := Lib.hid (grown_below HB6.out hgrow_ (own_ge HOE.out)); have HB7 := Lib.hid (HQ3.out.trans (HQ7.out.mono HQ3.out.size)); obtain ⟨⟨a0, a1, a2, a3, a4⟩, a5⟩ := HD.out w7 HB7.out; obtain ⟨b1, b2, b3⟩ := HC.out w7 (HIV.out w7 HB7.out).1; have HO7 := Lib.hid hown_; have HG7 := Lib.hid (Nat.le_trans HB6.out.size hgrow_.size); clear hown_ hgrow_ hat_))
                refine (HVAR.out w7 HQ7.out).mono ?_
                rintro en w8 ⟨Ag, cg, rfl, hi8, hc8, hge8, hb8⟩
                dsimp only
                have HQ8 := Lib.hid (HQ7.out.trans (hb8.mono HQ7.out.size))
                have HB8 := Lib.hid (HQ3.out.trans (HQ8.out.mono HQ3.out.size))
                have HO8 := Lib.hid (own_below HO7.out hb8)
                have HR8 := Lib.hid (ints_row hi8)
                have HG8 := Lib.hid HQ8.out.size
                have HO4 := Lib.hid (show out = bodyE nf (l' ++ G ++ [x]) (t.tail (j + 1)) from HO3.out.trans (by simp))
                clear hi8 hge8 hb8 HO3 a0 a1 a2 a3 a4 a5 b1 b2 b3
                go_wp2_with (at_builtin; first | (refine wpList_append_row _ rfl _ _ 30 rfl wq.heap.size 3 i0 (.int .i64 0) 1 8 undI hinf hz0 hz1 hz2 rfl (by decide) _ _ _ rfl HO8.out Ag G.length cg (iv G) rfl (by simp [iv]) HR8.out (iv_one G) hml2 hmb2 HG8.out ?_; intro v10 w10 hown_ hgrow_ hat_; have HQ10 := Lib.hid (grown_below HQ8.out hgrow_ (own_ge HO8.out)); have HB10 := Lib.hid (HQ3.out.trans (HQ10.out.mono HQ3.out.size)); obtain ⟨⟨a0, a1, a2, a3, a4⟩, a5⟩ := HD.out w10 HB10.out; obtain ⟨b1, b2, b3⟩ := HC.out w10 (HIV.out w10 HB10.out).1; have HO10 := Lib.hid hown_; have HG10 := Lib.hid HQ10.out.size; clear hown_ hgrow_ hat_) | (refine wpList_append_own_at _ rfl _ _ 30 rfl wq.heap.size 3 i0 (.int .i64 0) 1 8 undI hinf hz0 hz1 hz2 rfl (by decide) _ _ _ rfl (HO10.out.alloc _) ⟨w10.heap.size, 0, none⟩ 1 1 [.int .i64 x] rfl rfl (cell_one_new _ _ _) (by simp [Value.oneCell']) hml3 hmb3 (by rw [World.size_alloc]; exact Nat.le_succ_of_le HG10.out) ?_; intro v9 w9 hown9 hgrow9 _ hat9))
                change World.grownBy _ w9 v10.ownBlock at hgrow9
                have hal : Below w10.heap.size w10 (w10.alloc (.cells #[.int .i64 x] 3)) := (Below.refl _ _).alloc (Nat.le_refl _) _
                have hb9 : Below wq.heap.size wq w9 := grown_below ((HQ10.out).trans (hal.mono HG10.out)) hgrow9 (fun g hg => (HO10.out.lt g hg).1)
                have HB9 := Lib.hid ((HWQ.out.1).trans (hb9.mono HWQ.out.1.size))
                obtain ⟨A9, c9, rfl, hi9, hc9⟩ := own_intsD (xs := (l' ++ G) ++ [x]) (own_none (xs := ((l' ++ G) ++ [x]).map (Value.int .i64)) (by simpa [iv] using hown9) rfl) (by have := HSZ.out.2; have := HGL.out; simp; omega)
                have HN := Lib.hid (show BkS nf W0 t out (j + 1) A9 c9 ((l' ++ G) ++ [x]) l w9 from ⟨HB9.out, hi9, hc9, HO4.out, by have := HSZ.out.1; have := HGL.out; simp; omega⟩)
                clear hgrow9 hown9 hat9 hal hb9 hi9 hc9
                go_roundw
                case rel => exact ⟨j + 1, A9, c9, (l' ++ G) ++ [x], by omega, by go_num, rfl, HN⟩
                case measure => simp [intOf]; omega
              · have hk1 : (k == 10) = false := by simpa using hk
                have hk2 : (k != 10) = true := by simpa using hk
                have HO4 := Lib.hid (show out = bodyE nf (l' ++ [x]) (t.tail (j + 1)) from HO3.out.trans (by rw [if_neg hk, List.append_nil]))
                have hml1 : 0 + l'.length + 1 ≤ maxLen := by have := HSZ.out.2; unfold maxLen; omega
                have hmb1 : (0 + l'.length + 1) * 8 ≤ 140737488355328 := by have := HSZ.out.2; omega
                clear hk HO3
                go_wp2_with (at_builtin; first | (refine wpList_append_row _ rfl _ _ 30 rfl wq.heap.size 3 i0 (.int .i64 0) 1 8 undI hinf hz0 hz1 hz2 rfl (by decide) _ 0 [] rfl HOE.out A' l'.length c' (iv l') rfl (by simp [iv]) HR6.out (iv_one l') hml0 hmb0 HB6.out.size ?_; intro v7 w7 hown_ hgrow_ hat_; have HQ7 := Lib.hid (grown_below HB6.out hgrow_ (own_ge HOE.out)); have HB7 := Lib.hid (HQ3.out.trans (HQ7.out.mono HQ3.out.size)); obtain ⟨⟨a0, a1, a2, a3, a4⟩, a5⟩ := HD.out w7 HB7.out; obtain ⟨b1, b2, b3⟩ := HC.out w7 (HIV.out w7 HB7.out).1; have HO7 := Lib.hid hown_; have HG7 := Lib.hid (Nat.le_trans HB6.out.size hgrow_.size); clear hown_ hgrow_ hat_) | (refine wpList_append_own_at _ rfl _ _ 30 rfl wq.heap.size 3 i0 (.int .i64 0) 1 8 undI hinf hz0 hz1 hz2 rfl (by decide) _ _ _ rfl (HO7.out.alloc _) ⟨w7.heap.size, 0, none⟩ 1 1 [.int .i64 x] rfl rfl (cell_one_new _ _ _) (by simp [Value.oneCell']) hml1 hmb1 (by rw [World.size_alloc]; exact Nat.le_succ_of_le HG7.out) ?_; intro v9 w9 hown9 hgrow9 _ hat9))
                change World.grownBy _ w9 v7.ownBlock at hgrow9
                have hal : Below w7.heap.size w7 (w7.alloc (.cells #[.int .i64 x] 3)) := (Below.refl _ _).alloc (Nat.le_refl _) _
                have hb9 : Below wq.heap.size wq w9 := grown_below ((HQ7.out).trans (hal.mono HG7.out)) hgrow9 (fun g hg => (HO7.out.lt g hg).1)
                have HB9 := Lib.hid ((HWQ.out.1).trans (hb9.mono HWQ.out.1.size))
                obtain ⟨A9, c9, rfl, hi9, hc9⟩ := own_intsD (xs := (l') ++ [x]) (own_none (xs := ((l') ++ [x]).map (Value.int .i64)) (by simpa [iv] using hown9) rfl) (by have := HSZ.out.2; have := HGL.out; simp; omega)
                have HN := Lib.hid (show BkS nf W0 t out (j + 1) A9 c9 ((l') ++ [x]) l w9 from ⟨HB9.out, hi9, hc9, HO4.out, by have := HSZ.out.1; have := HGL.out; simp; omega⟩)
                clear hgrow9 hown9 hat9 hal hb9 hi9 hc9
                go_roundw
                case rel => exact ⟨j + 1, A9, c9, (l') ++ [x], by omega, by go_num, rfl, HN⟩
                case measure => simp [intOf]; omega
        · have HF := Lib.hid (show out = be from HOUT.out.trans (by rw [if_pos hz]))
          have hz6 : (be == 0) = false := by simpa using hz
          have hz7 : (be != 0) = true := by simpa using hz
          clear HOUT hz
          go_wp2_with fail
          rw [← HQ.out]
          go_ret
          exact ⟨ret_int HF.out.symm, (HBV.out _ HB2.out).2.1⟩
      · have e2 : ¬ (j : Int) < (T : Int) := by omega
        have ho := HJ.out.out
        rw [HT.out j (by omega)] at ho
        have HO := Lib.hid (show out = (if atomB ⟨t.last.v, t.last.n⟩ = false then 2 else if asksB l' ⟨t.last.v, t.last.n⟩ = false then 16 else 0) from ho)
        clear ho
        go_wp2_with fail
        exact H18.out _ _ _ _ HJ.out.bel HJ.out.ints HJ.out.cap HO.out _ _ _ _ _ _ _ _ _ _ _ _ _ _ _ _ _ _ _ _ _ _ _ _ _ _ _ _ _ _ _ _ _ _ _ _ _ _ _ _ _ _ _ _ _ _ _ _ _ _ _ _ _ _ _ _ _ _ _ _ _ _ _ _ _ _ _ _ _ _ _ _ _ _ _ _ _ _ _ _ _ _ _ _ _ _ _ _ _ _ _ _ _ _ _ _
end Go.Proofs.Ytnobggabjpcbfaa

/-
  camletref30: size, deep.
-/
set_option linter.unusedVariables false
set_option linter.unusedSimpArgs false
namespace Go.Proofs.Ytnobggabjpcbfaa
open Go.RowKit Go.Maps

mutual
/-- how deep blocks stand in one another -/
def dpN : Anf → Nat
  | .ret _ => 0
  | .bind _ _ _ _ _ bl r => max (dpL bl) (dpN r)
def dpL : List Anf → Nat
  | [] => 0
  | c :: cs => max (dpN c + 1) (dpL cs)
end
theorem dpL_drop : ∀ {bl : List Anf} {q : Nat} (hq : q < bl.length), dpL (bl.drop q) = max (dpN bl[q] + 1) (dpL (bl.drop (q + 1)))
  | c :: cs, 0, _ => by simp [dpL]
  | c :: cs, q + 1, hq => by
    have := dpL_drop (bl := cs) (q := q) (by simpa using hq)
    simpa using this
mutual
/-- the binds alone, and those around blocks -/
theorem dpN_le : ∀ t : Anf, dpN t ≤ totA t
  | .ret _ => by simp [dpN, totA]
  | .bind _ _ _ _ _ bl r => by
    have h1 := dpL_le bl
    have h2 := dpN_le r
    simp only [dpN, totA]
    omega
theorem dpL_le : ∀ l : List Anf, dpL l ≤ totL l + 1
  | [] => by simp [dpL, totL]
  | c :: cs => by
    have h1 := dpN_le c
    have h2 := dpL_le cs
    simp only [dpL, totL]
    omega
end
theorem totA_tail : ∀ (t : Anf) (j : Nat), totA (t.tail j) ≤ totA t
  | t, 0 => by rw [Anf.tail_zero]; exact Nat.le_refl _
  | .ret a, j + 1 => Nat.le_refl _
  | .bind _ _ _ _ _ bl r, j + 1 => by
    have := totA_tail r j
    simp only [Anf.tail, totA]
    omega
theorem totL_drop_le (bl : List Anf) : ∀ q, totL (bl.drop q) ≤ totL bl := by
  induction bl with
  | nil => intro q; simp
  | cons c cs ih =>
    intro q
    cases q with
    | zero => simp
    | succ q => have := ih q; simp only [List.drop_succ_cons, totL]; omega
set_option maxRecDepth 100000 in
set_option maxHeartbeats 8000000 in
theorem rsize_any {B : Nat} (t : Anf) : ∀ (W : World) (v : Array Value), BodyIn B W t v → B ≤ W.heap.size → totA t ≤ 1000000000 →
    Calls Try.prog 37 #[.agg v] W fun e w' => e = .returned (.int .i64 ((totA t : Nat) : Int)) ∧ Below W.heap.size W w' := by
  induction hs : SizeOf.sizeOf t using Nat.strongRecOn generalizing t with
  | _ sz ih =>
    subst hs
    intro W v hin hBW htot
    obtain ⟨A, c, b, o, rfl, hc, h96, hA, hB⟩ := hin.at_
    obtain ⟨W0, hW0⟩ : ∃ W0, W.alloc (.cells #[.slice A t.len c, .bool t.last.v, .int .i64 t.last.n] 27) = W0 := ⟨_, rfl⟩
    have hb0 : Below W.heap.size W W0 := by rw [← hW0]; exact (Below.refl _ _).alloc (Nat.le_refl _) _
    have hs0 : W.heap.size < W0.heap.size := by rw [← hW0]; simp
    have e0 : W0.cell? ⟨W.heap.size, 0, none⟩ = some (.slice A t.len c) := by rw [← hW0, World.cell?_alloc_at _ _ _ _ rfl]; rfl
    have HBI := Lib.hid (fun (i : Nat) (hi : i < t.len) (V : World) (hV : Below W0.heap.size W0 V) =>
      (show ∃ x k nn ats ks bl Al cl, A = some ⟨b, o, none⟩ ∧ Hid (t.tail i = .bind x k nn ats ks bl (t.tail (i + 1))) ∧ V.cell? ⟨b, o + i * 6 + 1 + 4, none⟩ = some (.slice Al (List.length bl) cl) ∧ (List.length bl) ≤ cl ∧ (List.length bl) * 40 ≤ 140737488351232 ∧
        Hid (∀ j (h : j < (List.length bl)) (V2 : World), Below W0.heap.size W0 V2 → ∃ bb oo A0 n0 c0 r0 r1, Al = some ⟨bb, oo, none⟩ ∧ V2.cell? ⟨bb, oo + j * 3, none⟩ = some (.slice A0 n0 c0) ∧ V2.cell? ⟨bb, oo + j * 3 + 1, none⟩ = some (.bool r0) ∧ V2.cell? ⟨bb, oo + j * 3 + 2, none⟩ = some (.int .i64 r1) ∧
          (totA bl[j] ≤ 1000000000 → Calls Try.prog 37 #[.agg #[.slice A0 n0 c0, .bool r0, .int .i64 r1]] V2 fun e w' => e = .returned (.int .i64 ((totA bl[j] : Nat) : Int)) ∧ Below V2.heap.size V2 w')) from by
        obtain ⟨x, k, nn, ats, ks, bl, Aa, ca, Ak, ck, Al, cl, he, hbi⟩ := hB i hi
        have hV0 : Below B W V := (hb0.mono hBW).trans (hV.mono (Nat.le_trans hBW hb0.size))
        refine ⟨x, k, nn, ats, ks, bl, Al, cl, hA (by omega), Lib.hid he, (hV0.cell (p := ⟨_, _, none⟩) hbi.lt).trans hbi.c5, hbi.hlc, hbi.hl8, Lib.hid (fun j hj V2 h2 => ?_)⟩
        obtain ⟨bb, oo, g0, g1, g2, e1, e2, e3, e4, e5, hbd⟩ := hbi.blk j hj
        have hV2 : Below B W V2 := (hb0.mono hBW).trans (h2.mono (Nat.le_trans hBW hb0.size))
        have hbd0 := hbd
        obtain ⟨A0, c0, b0, o0, hv, -⟩ := hbd.at_
        simp only [Array.mk.injEq, List.cons.injEq, and_true] at hv
        obtain ⟨rfl, rfl, rfl⟩ := hv
        refine ⟨bb, oo, A0, _, c0, _, _, e1, (hV2.cell (p := ⟨_, _, none⟩) e2).trans e3, (hV2.cell (p := ⟨_, _, none⟩) e2).trans e4, (hV2.cell (p := ⟨_, _, none⟩) e2).trans e5, fun ht => ?_⟩
        exact ih _ (size_block he (List.getElem_mem hj)) bl[j] rfl V2 _ (hbd0.kept hV2) (Nat.le_trans hBW hV2.size) ht))
    have HB0 := Lib.hid hb0
    have HS0 := Lib.hid hs0
    have HT := Lib.hid (Anf.tail_ret t)
    obtain ⟨FIN, hFIN⟩ : ∃ z : Nat, totA t = z := ⟨_, rfl⟩
    have HF := Lib.hid (show t.len + subA (t.tail 0) = FIN from by rw [Anf.tail_zero, ← hFIN]; exact subA_len t)
    have HTOT := Lib.hid (show FIN ≤ 1000000000 from by rw [← hFIN]; exact htot)
    rw [hFIN]
    clear ih hB hin hb0 hA hs0 hFIN hBW
    obtain ⟨tl, htl⟩ : ∃ tl, t.len = tl := ⟨_, rfl⟩
    rw [htl] at e0 HBI HT h96 hc hW0 HF ⊢
    have htl8 : tl ≤ 2000000000000 := by omega
    clear h96 htl
    generalize t.last.v = lv at *
    generalize t.last.n = ln at *
    go_enter Try.func37, Try.ntmps37
    go_wp2_with fail
    go_loopw [3, 4] (fun n i wr => ∃ (j m : Nat), j ≤ tl ∧ i = .int .i64 (j : Int) ∧ n = .int .i64 (m : Int) ∧ Hid (Below W0.heap.size W0 wr) ∧ m ≤ 1000000000 ∧ Hid (m + subA (t.tail j) = FIN)) (fun _ i _ => tl + 1 - (intOf i).toNat)
    case atStart => exact ⟨0, tl, by omega, rfl, rfl, Lib.hid (Below.refl _ _), by have h1 := HF.out; have h2 := HTOT.out; omega, HF⟩
    case round =>
      obtain ⟨wo, rfl⟩ : ∃ wo, wo = wr := ⟨_, rfl⟩
      obtain ⟨j, m, hj, rfl, rfl, hbel, hm3, heq⟩ := hrel
      have q0 := (hbel.out.cell (p := ⟨W.heap.size, 0, none⟩) HS0.out).trans e0
      by_cases hlt : j < tl
      · have hj0 : (0 : Int) ≤ (j : Int) := by omega
        have hjl : (j : Int) < (tl : Int) := by omega
        have hjc : (tl : Int) ≤ (c : Int) := by omega
        obtain ⟨x, k, nn, ats, ks, bl, Al, cl, rfl, htail, s5, l3, l4, HBL⟩ := HBI.out j hlt wo hbel.out
        have HST := Lib.hid (show m + (totL bl + subA (t.tail (j + 1))) = FIN from by have h := heq.out; rw [htail.out] at h; exact h)
        have w3 : IntKind.i64.wrap ((j : Int) + 1) = (j : Int) + 1 := by rw [IntKind.wrap_i64]; omega
        clear heq htail
        go_wp2_with fail
        go_loopw [3, 5] (fun n2 kk wr2 => ∃ (q m2 : Nat), q ≤ bl.length ∧ kk = .int .i64 (q : Int) ∧ n2 = .int .i64 (m2 : Int) ∧ Hid (Below wo.heap.size wo wr2) ∧ m2 ≤ 1000000000 ∧ Hid (m2 + (totL (bl.drop q) + subA (t.tail (j + 1))) = FIN)) (fun _ kk _ => bl.length + 1 - (intOf kk).toNat)
        case atStart => exact ⟨0, m, by omega, rfl, rfl, Lib.hid (Below.refl _ _), hm3, Lib.hid (by rw [List.drop_zero]; exact HST.out)⟩
        case round =>
          obtain ⟨q, m2, hq, rfl, rfl, hbel2, hm5, heq2⟩ := hrel
          have HBW := Lib.hid (hbel.out.trans (hbel2.out.mono hbel.out.size))
          have s5' := cell_behind hbel2.out s5
          have q0' := cell_behind hbel2.out q0
          by_cases hlq : q < bl.length
          · have hq0 : (0 : Int) ≤ (q : Int) := by omega
            have hql : (q : Int) < (bl.length : Int) := by omega
            have hqc : (bl.length : Int) ≤ (cl : Int) := by omega
            obtain ⟨bb, oo, A0, n0, c0', v0, v1, rfl, y0, y1, y2, hC⟩ := HBL.out q hlq wr HBW.out
            have hdr := totL_drop hlq
            have HN := Lib.hid (show m2 + totA bl[q] + (totL (bl.drop (q + 1)) + subA (t.tail (j + 1))) = FIN from by have h1 := heq2.out; rw [hdr] at h1; omega)
            have HC := Lib.hid (hC (by have h1 := heq2.out; have h2 := HTOT.out; rw [hdr] at h1; omega))
            clear hC heq2
            generalize totA bl[q] = nk at *
            have z3 : IntKind.i64.wrap ((q : Int) + 1) = (q : Int) + 1 := by rw [IntKind.wrap_i64]; omega
            clear hdr
            have hm6 : m2 + nk ≤ 1000000000 := by have h1 := HN.out; have h2 := HTOT.out; omega
            have z2 : IntKind.i64.wrap ((m2 : Int) + (nk : Int)) = (m2 : Int) + (nk : Int) := by rw [IntKind.wrap_i64]; omega
            go_wp2_with fail
            refine HC.out.mono ?_
            rintro e w' ⟨rfl, hb2⟩
            have HB5 := Lib.hid (hbel2.out.trans (hb2.mono hbel2.out.size))
            clear hb2 HC
            go_wp2_with fail
            go_roundw
            case rel => exact ⟨q + 1, m2 + nk, by omega, by go_num, by first | rfl | (simp; done) | (congr 1; omega) | (simp; omega), HB5, hm6, HN⟩
            case measure => simp [intOf]; omega
          · have hql : ¬ (q : Int) < (bl.length : Int) := by omega
            have hdr : bl.drop q = [] := List.drop_eq_nil_iff.2 (by omega)
            have HE := Lib.hid (show m2 + subA (t.tail (j + 1)) = FIN from by have h := heq2.out; rw [hdr] at h; simp only [totL, dpL] at h; omega)
            clear heq2 hdr
            go_wp2_with fail
            go_roundw
            case rel => exact ⟨j + 1, m2, by omega, by go_num, rfl, HBW, hm5, HE⟩
            case measure => simp [intOf]; omega
      · have hjl : ¬ (j : Int) < (tl : Int) := by omega
        have HE := Lib.hid (show m + subA (.ret t.last) = FIN from by have h := heq.out; rw [HT.out j (by omega)] at h; exact h)
        clear heq
        have hme : m = FIN := by have h := HE.out; simp only [subA] at h; omega
        subst hme
        go_wp2_with fail
        go_ret
        exact ⟨rfl, HB0.out.trans (hbel.out.mono (Nat.le_of_lt HS0.out))⟩
set_option maxRecDepth 100000 in
set_option maxHeartbeats 8000000 in
theorem rdeep_any {B : Nat} (t : Anf) : ∀ (W : World) (v : Array Value), BodyIn B W t v → B ≤ W.heap.size → totA t ≤ 1000000000 →
    Calls Try.prog 23 #[.agg v] W fun e w' => e = .returned (.int .i64 (((dpN t + 1) : Nat) : Int)) ∧ Below W.heap.size W w' := by
  induction hs : SizeOf.sizeOf t using Nat.strongRecOn generalizing t with
  | _ sz ih =>
    subst hs
    intro W v hin hBW htot
    obtain ⟨A, c, b, o, rfl, hc, h96, hA, hB⟩ := hin.at_
    obtain ⟨W0, hW0⟩ : ∃ W0, W.alloc (.cells #[.slice A t.len c, .bool t.last.v, .int .i64 t.last.n] 27) = W0 := ⟨_, rfl⟩
    have hb0 : Below W.heap.size W W0 := by rw [← hW0]; exact (Below.refl _ _).alloc (Nat.le_refl _) _
    have hs0 : W.heap.size < W0.heap.size := by rw [← hW0]; simp
    have e0 : W0.cell? ⟨W.heap.size, 0, none⟩ = some (.slice A t.len c) := by rw [← hW0, World.cell?_alloc_at _ _ _ _ rfl]; rfl
    have HBI := Lib.hid (fun (i : Nat) (hi : i < t.len) (V : World) (hV : Below W0.heap.size W0 V) =>
      (show ∃ x k nn ats ks bl Al cl, A = some ⟨b, o, none⟩ ∧ Hid (t.tail i = .bind x k nn ats ks bl (t.tail (i + 1))) ∧ V.cell? ⟨b, o + i * 6 + 1 + 4, none⟩ = some (.slice Al (List.length bl) cl) ∧ (List.length bl) ≤ cl ∧ (List.length bl) * 40 ≤ 140737488351232 ∧
        Hid (∀ j (h : j < (List.length bl)) (V2 : World), Below W0.heap.size W0 V2 → ∃ bb oo A0 n0 c0 r0 r1, Al = some ⟨bb, oo, none⟩ ∧ V2.cell? ⟨bb, oo + j * 3, none⟩ = some (.slice A0 n0 c0) ∧ V2.cell? ⟨bb, oo + j * 3 + 1, none⟩ = some (.bool r0) ∧ V2.cell? ⟨bb, oo + j * 3 + 2, none⟩ = some (.int .i64 r1) ∧
          (totA bl[j] ≤ 1000000000 → Calls Try.prog 23 #[.agg #[.slice A0 n0 c0, .bool r0, .int .i64 r1]] V2 fun e w' => e = .returned (.int .i64 (((dpN bl[j] + 1) : Nat) : Int)) ∧ Below V2.heap.size V2 w')) from by
        obtain ⟨x, k, nn, ats, ks, bl, Aa, ca, Ak, ck, Al, cl, he, hbi⟩ := hB i hi
        have hV0 : Below B W V := (hb0.mono hBW).trans (hV.mono (Nat.le_trans hBW hb0.size))
        refine ⟨x, k, nn, ats, ks, bl, Al, cl, hA (by omega), Lib.hid he, (hV0.cell (p := ⟨_, _, none⟩) hbi.lt).trans hbi.c5, hbi.hlc, hbi.hl8, Lib.hid (fun j hj V2 h2 => ?_)⟩
        obtain ⟨bb, oo, g0, g1, g2, e1, e2, e3, e4, e5, hbd⟩ := hbi.blk j hj
        have hV2 : Below B W V2 := (hb0.mono hBW).trans (h2.mono (Nat.le_trans hBW hb0.size))
        have hbd0 := hbd
        obtain ⟨A0, c0, b0, o0, hv, -⟩ := hbd.at_
        simp only [Array.mk.injEq, List.cons.injEq, and_true] at hv
        obtain ⟨rfl, rfl, rfl⟩ := hv
        refine ⟨bb, oo, A0, _, c0, _, _, e1, (hV2.cell (p := ⟨_, _, none⟩) e2).trans e3, (hV2.cell (p := ⟨_, _, none⟩) e2).trans e4, (hV2.cell (p := ⟨_, _, none⟩) e2).trans e5, fun ht => ?_⟩
        exact ih _ (size_block he (List.getElem_mem hj)) bl[j] rfl V2 _ (hbd0.kept hV2) (Nat.le_trans hBW hV2.size) ht))
    have HB0 := Lib.hid hb0
    have HS0 := Lib.hid hs0
    have HT := Lib.hid (Anf.tail_ret t)
    obtain ⟨FIN, hFIN⟩ : ∃ z : Nat, (dpN t + 1) = z := ⟨_, rfl⟩
    have HF := Lib.hid (show max 0 (dpN (t.tail 0)) = FIN - 1 from by rw [Anf.tail_zero, ← hFIN]; simp)
    have HTOT := Lib.hid (show 1 ≤ FIN ∧ FIN ≤ 1000000001 from by rw [← hFIN]; have := dpN_le t; omega)
    have HTA := Lib.hid htot
    have HTJ := Lib.hid (totA_tail t)
    rw [hFIN]
    clear ih hB hin hb0 hA hs0 hFIN hBW
    obtain ⟨tl, htl⟩ : ∃ tl, t.len = tl := ⟨_, rfl⟩
    rw [htl] at e0 HBI HT h96 hc hW0 ⊢
    have htl8 : tl ≤ 2000000000000 := by omega
    clear h96 htl
    generalize t.last.v = lv at *
    generalize t.last.n = ln at *
    go_enter Try.func23, Try.ntmps23
    go_wp2_with fail
    go_loopw [3, 4] (fun n i wr => ∃ (j m : Nat), j ≤ tl ∧ i = .int .i64 (j : Int) ∧ n = .int .i64 (m : Int) ∧ Hid (Below W0.heap.size W0 wr) ∧ m ≤ 1000000000 ∧ Hid (max m (dpN (t.tail j)) = FIN - 1)) (fun _ i _ => tl + 1 - (intOf i).toNat)
    case atStart => exact ⟨0, 0, by omega, rfl, rfl, Lib.hid (Below.refl _ _), by omega, HF⟩
    case round =>
      obtain ⟨wo, rfl⟩ : ∃ wo, wo = wr := ⟨_, rfl⟩
      obtain ⟨j, m, hj, rfl, rfl, hbel, hm3, heq⟩ := hrel
      have q0 := (hbel.out.cell (p := ⟨W.heap.size, 0, none⟩) HS0.out).trans e0
      by_cases hlt : j < tl
      · have hj0 : (0 : Int) ≤ (j : Int) := by omega
        have hjl : (j : Int) < (tl : Int) := by omega
        have hjc : (tl : Int) ≤ (c : Int) := by omega
        obtain ⟨x, k, nn, ats, ks, bl, Al, cl, rfl, htail, s5, l3, l4, HBL⟩ := HBI.out j hlt wo hbel.out
        have HST := Lib.hid (show max m (max (dpL bl) (dpN (t.tail (j + 1)))) = FIN - 1 from by have h := heq.out; rw [htail.out] at h; exact h)
        have w3 : IntKind.i64.wrap ((j : Int) + 1) = (j : Int) + 1 := by rw [IntKind.wrap_i64]; omega
        have HSZ := Lib.hid (show totL bl ≤ 1000000000 from by have h1 := HTJ.out j; have h2 := HTA.out; rw [htail.out] at h1; simp only [totA] at h1; omega)
        clear heq htail
        go_wp2_with fail
        go_loopw [3, 5] (fun n2 kk wr2 => ∃ (q m2 : Nat), q ≤ bl.length ∧ kk = .int .i64 (q : Int) ∧ n2 = .int .i64 (m2 : Int) ∧ Hid (Below wo.heap.size wo wr2) ∧ m2 ≤ 1000000000 ∧ Hid (max m2 (max (dpL (bl.drop q)) (dpN (t.tail (j + 1)))) = FIN - 1)) (fun _ kk _ => bl.length + 1 - (intOf kk).toNat)
        case atStart => exact ⟨0, m, by omega, rfl, rfl, Lib.hid (Below.refl _ _), hm3, Lib.hid (by rw [List.drop_zero]; exact HST.out)⟩
        case round =>
          obtain ⟨q, m2, hq, rfl, rfl, hbel2, hm5, heq2⟩ := hrel
          have HBW := Lib.hid (hbel.out.trans (hbel2.out.mono hbel.out.size))
          have s5' := cell_behind hbel2.out s5
          have q0' := cell_behind hbel2.out q0
          by_cases hlq : q < bl.length
          · have hq0 : (0 : Int) ≤ (q : Int) := by omega
            have hql : (q : Int) < (bl.length : Int) := by omega
            have hqc : (bl.length : Int) ≤ (cl : Int) := by omega
            obtain ⟨bb, oo, A0, n0, c0', v0, v1, rfl, y0, y1, y2, hC⟩ := HBL.out q hlq wr HBW.out
            have hdr := dpL_drop hlq
            have HQZ := Lib.hid (totL_drop_le bl q)
            have HN := Lib.hid (show max (max m2 (dpN bl[q] + 1)) (max (dpL (bl.drop (q + 1))) (dpN (t.tail (j + 1)))) = FIN - 1 from by have h1 := heq2.out; rw [hdr] at h1; omega)
            have HC := Lib.hid (hC (by have h1 := HSZ.out; have h2 := totL_drop hlq; have h3 := HQZ.out; omega))
            clear hC heq2
            generalize (dpN bl[q] + 1) = nk at *
            have z3 : IntKind.i64.wrap ((q : Int) + 1) = (q : Int) + 1 := by rw [IntKind.wrap_i64]; omega
            clear hdr
            have hm6 : max m2 nk ≤ 1000000000 := by have h1 := HN.out; have h2 := HTOT.out; omega
            have hmx : (max (m2 : Int) (nk : Int)) = ((max m2 nk : Nat) : Int) := by omega
            go_wp2_with fail
            refine HC.out.mono ?_
            rintro e w' ⟨rfl, hb2⟩
            have HB5 := Lib.hid (hbel2.out.trans (hb2.mono hbel2.out.size))
            clear hb2 HC
            go_wp2_with fail
            go_roundw
            case rel => exact ⟨q + 1, max m2 nk, by omega, by go_num, by first | rfl | (simp; done) | (congr 1; omega) | (simp; omega), HB5, hm6, HN⟩
            case measure => simp [intOf]; omega
          · have hql : ¬ (q : Int) < (bl.length : Int) := by omega
            have hdr : bl.drop q = [] := List.drop_eq_nil_iff.2 (by omega)
            have HE := Lib.hid (show max m2 (dpN (t.tail (j + 1))) = FIN - 1 from by have h := heq2.out; rw [hdr] at h; simp only [totL, dpL] at h; simpa using h)
            clear heq2 hdr
            go_wp2_with fail
            go_roundw
            case rel => exact ⟨j + 1, m2, by omega, by go_num, rfl, HBW, hm5, HE⟩
            case measure => simp [intOf]; omega
      · have hjl : ¬ (j : Int) < (tl : Int) := by omega
        have HE := Lib.hid (show max m (dpN (.ret t.last)) = FIN - 1 from by have h := heq.out; rw [HT.out j (by omega)] at h; exact h)
        clear heq
        have hme : m = FIN - 1 := by have h := HE.out; simp only [dpN] at h; omega
        have hmf : ((m : Int) + 1) = (FIN : Int) := by have h := HTOT.out; omega
        have z2 : IntKind.i64.wrap ((m : Int) + 1) = (FIN : Int) := by rw [IntKind.wrap_i64]; omega
        go_wp2_with fail
        go_ret
        exact ⟨ret_int (by have := HTOT.out; omega), HB0.out.trans (hbel.out.mono (Nat.le_of_lt HS0.out))⟩
end Go.Proofs.Ytnobggabjpcbfaa
