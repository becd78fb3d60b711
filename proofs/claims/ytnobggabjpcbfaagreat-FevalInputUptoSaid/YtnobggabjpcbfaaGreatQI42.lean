/-
 2 texts of this seat in one: S7 S8.
-/
import Derived.Test.YtnobggabjpcbfaaGreatQI41
set_option maxRecDepth 100000
set_option maxHeartbeats 16000000
set_option linter.unusedVariables false
set_option linter.unusedSimpArgs false
namespace Go.Proofs.YtnobggabjpcbfaaGreat
open Go.RowKit Go.Maps
theorem numberB_n (nf : Nat) (x k n : Int) (ats : List Atm) (ks : List Int) : numberB nf x k n ats ks = (varB x && (k != 10 || (groupV ks).all varB) && nB nf k n && ats.all atomB) := rfl
theorem bind_out (nf : Nat) (x k n : Int) (ats : List Atm) (ks l : List Int) (nb : Nat) :
 (if bareB k n ats.length ks.length nb = false then 29 else if varB x = false ∨ nB nf k n = false then 2 else if k = 10 ∧ (groupV ks).all varB = false then 2 else if ats.all atomB = false then 2 else if k = 2 ∧ inB n 1 16 = false then 28 else if countB x k n ats.length ks nb = false then 19 else if k = 10 ∧ funsB nf ks = false then 2 else if k = 8 ∧ risingB ks = false then 3 else if ats.all (asksB (if k = 10 then l ++ groupV ks else l)) = false then 16 else (0 : Int))
  = if bindE nf x k n ats ks nb ≠ 0 then bindE nf x k n ats ks nb else if ats.all (asksB (if k = 10 then l ++ groupV ks else l)) = false then 16 else 0 := by
 unfold bindE
 rw [numberB_n]
 cases h1 : bareB k n ats.length ks.length nb
 · simp
 · cases h2 : varB x
   · simp
   · cases h3 : nB nf k n
     · simp
     · by_cases h4 : k = 10 ∧ (groupV ks).all varB = false
       · obtain ⟨h4a, h4b⟩ := h4
         simp [h4a, h4b]
       · have h5 : (k != 10 || (groupV ks).all varB) = true := by
          by_cases hk : k = 10
          · have : (groupV ks).all varB = true := by
             cases hh : (groupV ks).all varB
             · exact absurd ⟨hk, hh⟩ h4
             · rfl
            simp [this]
          · simp [hk]
         rw [if_neg h4, h5]
         cases h6 : ats.all atomB
         · simp
         · simp only [Bool.true_eq_false, if_false, or_self, Bool.and_self]
           by_cases h7 : k = 2 ∧ inB n 1 16 = false
           · simp [h7]
           · rw [if_neg h7, if_neg h7]
             cases h8 : countB x k n ats.length ks nb
             · simp
             · simp only [Bool.true_eq_false, if_false]
               by_cases h9 : k = 10 ∧ funsB nf ks = false
               · simp [h9]
               · rw [if_neg h9, if_neg h9]
                 by_cases h10 : k = 8 ∧ risingB ks = false
                 · simp [h10]
                 · rw [if_neg h10, if_neg h10]
                   simp
noncomputable def bdr0 : Code := match Tryz.f44.body with
 | some (.seq c _) => c
 | _ => .skip
noncomputable def bdr1 : Code := match Tryz.f44.body with
 | some (.seq _ (.seq c _)) => c
 | _ => .skip
noncomputable def bdr2 : Code := match Tryz.f44.body with
 | some (.seq _ (.seq _ (.seq c _))) => c
 | _ => .skip
def bindR (nf : Nat) (x k n : Int) (ats : List Atm) (ks l : List Int) (nb : Nat) : Int := if bindE nf x k n ats ks nb ≠ 0 then bindE nf x k n ats ks nb else if ats.all (asksB (if k = 10 then l ++ groupV ks else l)) = false then 16 else 0
theorem rbind_any {nf : Nat} (hnf : nf ≤ 1000000) (x k n : Int) {Aa Ak Al A2 : Option Addr} {ca ck nb cb c2 : Nat} {ats : List Atm} {ks l : List Int} {w : World} (ha : AtomsIn w.heap.size w Aa ats) (hac : ats.length ≤ ca) (hk : IntsIn w.heap.size w Ak ks) (hkc : ks.length ≤ ck) (hl : IntsIn w.heap.size w A2 l) (hlc : l.length ≤ c2) (hsm : (l.length + ks.length) * 8 ≤ 140737488351232) :
 Calls Tryz.prog 44 #[.agg #[.int .i64 x, .int .i64 k, .int .i64 n, .slice Aa ats.length ca, .slice Ak ks.length ck, .slice Al nb cb], .int .i64 (nf : Int), .slice A2 l.length c2] w (IntBelow (bindR nf x k n ats ks l nb) w) := by
 obtain ⟨W0, hW0⟩ : ∃ W0, w.alloc (.cells #[.int .i64 x, .int .i64 k, .int .i64 n, .slice Aa ats.length ca, .slice Ak ks.length ck, .slice Al nb cb] 62) = W0 := ⟨_, rfl⟩
 have hb0 : Below w.heap.size w W0 := by rw [← hW0]; exact (Below.refl _ _).alloc (Nat.le_refl _) _
 have h00 : W0.heap[w.heap.size]? = some (.cells #[.int .i64 x, .int .i64 k, .int .i64 n, .slice Aa ats.length ca, .slice Ak ks.length ck, .slice Al nb cb] 62 (0, 0)) := by rw [← hW0]; exact World.alloc_heap_new w _
 obtain ⟨W1, hW1⟩ : ∃ W1, W0.alloc (.cells #[.int .i64 k, .int .i64 n, .slice Aa ats.length ca, .slice Ak ks.length ck, .slice Al nb cb] 60) = W1 := ⟨_, rfl⟩
 have hb1 : Below W0.heap.size W0 W1 := by rw [← hW1]; exact (Below.refl _ _).alloc (Nat.le_refl _) _
 have h11 : W1.heap[W0.heap.size]? = some (.cells #[.int .i64 k, .int .i64 n, .slice Aa ats.length ca, .slice Ak ks.length ck, .slice Al nb cb] 60 (0, 0)) := by rw [← hW1]; exact World.alloc_heap_new W0 _
 have hB := hb0.trans (hb1.mono hb0.size)
 have C : BCtx w W1 w.heap.size W0.heap.size x k n Aa Ak Al A2 ats ks ca ck nb cb c2 l := ⟨hB, (hb1.block _ (heap_lt h00)).trans h00, h11, (ha.below hB).mono hB.size, hac, (hk.below hB).mono hB.size, hkc, (hl.below hB).mono hB.size, hlc⟩
 obtain ⟨out, hout⟩ : ∃ o, bindR nf x k n ats ks l nb = o := ⟨_, rfl⟩
 have ho : out = (if bareB k n ats.length ks.length nb = false then 29 else (if varB x = false ∨ nB nf k n = false then 2 else (if k = 10 ∧ (groupV ks).all varB = false then 2 else (if ats.all atomB = false then 2 else (if k = 2 ∧ inB n 1 16 = false then 28 else (if countB x k n ats.length ks nb = false then 19 else (if k = 10 ∧ funsB nf ks = false then 2 else (if k = 8 ∧ risingB ks = false then 3 else (if ats.all (asksB (if k = 10 then l ++ groupV ks else l)) = false then 16 else 0))))))))) := by rw [← hout]; exact (bind_out nf x k n ats ks l nb).symm
 rw [hout]
 have HF := Lib.hid (rfields_any k W1)
 have hT := fun (y0 y4 y5 y6 y13 y14 y15 y16 y17 y18 y19 y20 y21 y22 y23 y24 y25 y26 y27 y28 y29 y30 y31 y32 y33 y34 y35 y36 y37 y38 y39 y40 y41 y42 y43 y44 y45 y46 y47 y48 y49 y50 y51 y52 y53 y54 y55 y56 y57 y58 y59 y60 y61 y62 y63 y64 y65 y66 y67 y68 y69 y70 y71 y72 y73 y74 y75 y76 y77 y78 y79 y80 y81 y82 y83 y84 y85 y86 y87 y88 y89 y90 y91 y92 y93 y94 y95 y96 y97 y98 y99 y100 y101 y102 y103 y104 y105 y106 y107 y108 y109 y110 y111 y112 y113 y114 y115 y116 y117 y118 y119 y120 y121 y122 y123 y124 y125 y126 y127 y128 y129 y130 y131 y132 y133 y134 y135 y136 y137 y138 y139 y140 y141 y142 y143 y144 y145 y146 y147 y148 y149 y150 y151 y152 y153 y154 y155 y156 y157 y158 y159 y160 y161 y162 y163 y164 y165 y166 y167 y168 y169 y170 y171 y172 y173 y174 y175 y176 y177 y178 y179 y180 y181 y182 y183 y184 y185 y186 y187 y188 y189 y190 y191 y192 y193 y194 y195 y196 y197 y198 y199 y200 y201 y202 y203 y204 y205 y206 y207 y208 y209 y210 y211 y212 y213 y214 y215 y216 y217 y218 y219 y220 y221 y222 y223 y224 y225 y226 y227 y228 y229 y230 y231 y232 y233 y234 y235 y236 : Value) => bd_T3 C (Below.refl _ _) hnf hsm rfl rfl rfl rfl ho y0 y4 y5 y6 y13 y14 y15 y16 y17 y18 y19 y20 y21 y22 y23 y24 y25 y26 y27 y28 y29 y30 y31 y32 y33 y34 y35 y36 y37 y38 y39 y40 y41 y42 y43 y44 y45 y46 y47 y48 y49 y50 y51 y52 y53 y54 y55 y56 y57 y58 y59 y60 y61 y62 y63 y64 y65 y66 y67 y68 y69 y70 y71 y72 y73 y74 y75 y76 y77 y78 y79 y80 y81 y82 y83 y84 y85 y86 y87 y88 y89 y90 y91 y92 y93 y94 y95 y96 y97 y98 y99 y100 y101 y102 y103 y104 y105 y106 y107 y108 y109 y110 y111 y112 y113 y114 y115 y116 y117 y118 y119 y120 y121 y122 y123 y124 y125 y126 y127 y128 y129 y130 y131 y132 y133 y134 y135 y136 y137 y138 y139 y140 y141 y142 y143 y144 y145 y146 y147 y148 y149 y150 y151 y152 y153 y154 y155 y156 y157 y158 y159 y160 y161 y162 y163 y164 y165 y166 y167 y168 y169 y170 y171 y172 y173 y174 y175 y176 y177 y178 y179 y180 y181 y182 y183 y184 y185 y186 y187 y188 y189 y190 y191 y192 y193 y194 y195 y196 y197 y198 y199 y200 y201 y202 y203 y204 y205 y206 y207 y208 y209 y210 y211 y212 y213 y214 y215 y216 y217 y218 y219 y220 y221 y222 y223 y224 y225 y226 y227 y228 y229 y230 y231 y232 y233 y234 y235 y236
 have HT := Lib.hid hT
 have d := h00
 have d1 : W0.cell? ⟨w.heap.size, 1, none⟩ = some (.int .i64 k) := by simp [World.cell?, h00]
 have d2 : W0.cell? ⟨w.heap.size, 2, none⟩ = some (.int .i64 n) := by simp [World.cell?, h00]
 have d3 : W0.cell? ⟨w.heap.size, 3, none⟩ = some (.slice Aa ats.length ca) := by simp [World.cell?, h00]
 have d4 : W0.cell? ⟨w.heap.size, 4, none⟩ = some (.slice Ak ks.length ck) := by simp [World.cell?, h00]
 have d5 : W0.cell? ⟨w.heap.size, 5, none⟩ = some (.slice Al nb cb) := by simp [World.cell?, h00]
 have c0 : W1.cell? ⟨W0.heap.size, 0, none⟩ = some (.int .i64 k) := by simp [World.cell?, h11]
 clear hT hout ho C hB h11 hb1 h00 hb0 ha hk hl d
 go_enter Tryz.func44, Tryz.ntmps44
 show (Code.seq bdr0 (Code.seq bdr1 (Code.seq bdr2 bdT3))).wp Tryz.prog _ _ _
 obtain ⟨T3, hT3⟩ : ∃ T3, bdT3 = T3 := ⟨_, rfl⟩
 obtain ⟨Q, hQ⟩ : ∃ Q, (bodyPost Tryz.prog Tryz.f44 (IntBelow out w)) = Q := ⟨_, rfl⟩
 rw [hT3, hQ] at HT
 rw [hT3, hQ]
 clear hT3 hQ
 unfold bdr0 bdr1 bdr2 Tryz.f44
 dsimp only
 go_wp2_with fail
 refine HF.out.mono ?_
 rintro en w' ⟨rfl, rfl⟩
 dsimp only
 go_wp2_with fail
 exact HT.out _ _ _ _ _ _ _ _ _ _ _ _ _ _ _ _ _ _ _ _ _ _ _ _ _ _ _ _ _ _ _ _ _ _ _ _ _ _ _ _ _ _ _ _ _ _ _ _ _ _ _ _ _ _ _ _ _ _ _ _ _ _ _ _ _ _ _ _ _ _ _ _ _ _ _ _ _ _ _ _ _ _ _ _ _ _ _ _ _ _ _ _ _ _ _ _ _ _ _ _ _ _ _ _ _ _ _ _ _ _ _ _ _ _ _ _ _ _ _ _ _ _ _ _ _ _ _ _ _ _ _ _ _ _ _ _ _ _ _ _ _ _ _ _ _ _ _ _ _ _ _ _ _ _ _ _ _ _ _ _ _ _ _ _ _ _ _ _ _ _ _ _ _ _ _ _ _ _ _ _ _ _ _ _ _ _ _ _ _ _ _ _ _ _ _ _ _ _ _ _ _ _ _ _ _ _ _ _ _ _ _ _ _ _ _ _ _ _ _ _ _ _ _ _ _ _ _ _
end Go.Proofs.YtnobggabjpcbfaaGreat
namespace Go.Proofs.YtnobggabjpcbfaaGreat
open Go.RowKit Go.Maps
noncomputable def bkT18 : Code := match Tryz.f27.body with
 | some (.seq _ (.seq _ c)) => c
 | _ => .skip
theorem bk_T18 {w V : World} {X3 tl c : Nat} {A A' : Option Addr} {c' : Nat} {l' : List Int} {out ln : Int} {lv : Bool} (hB : Below w.heap.size w V) (h0 : V.cell? ⟨X3, 0, none⟩ = some (.slice A tl c)) (h1 : V.cell? ⟨X3, 1, none⟩ = some (.bool lv)) (h2 : V.cell? ⟨X3, 2, none⟩ = some (.int .i64 ln)) (hl : IntsIn V.heap.size V A' l') (hlc : l'.length ≤ c')
 (hout : out = if atomB ⟨lv, ln⟩ = false then 2 else if asksB l' ⟨lv, ln⟩ = false then 16 else 0) (u0 u1 u4 u5 u6 u7 u8 u9 u10 u11 u12 u13 u14 u15 u16 u17 u18 u19 u20 u21 u22 u23 u24 u25 u26 u27 u28 u29 u30 u31 u32 u33 u34 u35 u36 u37 u38 u39 u40 u41 u42 u43 u44 u45 u46 u47 u48 u49 u50 u51 u52 u53 u54 u55 u56 u57 u58 u59 u60 u61 u62 u63 u64 u65 u66 u67 u68 u69 u70 u71 u72 u73 u74 u75 u76 u77 u78 u79 u80 u81 u82 u83 u84 u85 u86 u87 u88 u89 u90 u91 u92 u93 u94 u95 u96 u97 : Value) :
 bkT18.wp Tryz.prog (bodyPost Tryz.prog Tryz.f27 (IntBelow out w)) { tmps := #[u0, u1, .slice A' l'.length c', .pointer (some ⟨X3, 0, none⟩), u4, u5, u6, u7, u8, u9, u10, u11, u12, u13, u14, u15, u16, u17, u18, u19, u20, u21, u22, u23, u24, u25, u26, u27, u28, u29, u30, u31, u32, u33, u34, u35, u36, u37, u38, u39, u40, u41, u42, u43, u44, u45, u46, u47, u48, u49, u50, u51, u52, u53, u54, u55, u56, u57, u58, u59, u60, u61, u62, u63, u64, u65, u66, u67, u68, u69, u70, u71, u72, u73, u74, u75, u76, u77, u78, u79, u80, u81, u82, u83, u84, u85, u86, u87, u88, u89, u90, u91, u92, u93, u94, u95, u96, u97], defers := [] } V := by
 have HB := Lib.hid hB
 have HH := Lib.hid (fun (V2 : World) (h : Below V.heap.size V V2) => rhas_any A' c' l' ln V2 ((hl.below h).mono h.size) hlc)
 have HO := Lib.hid hout
 have HL := Lib.hid (show ∀ V2, Below V.heap.size V V2 → V2.cell? ⟨X3, 1, none⟩ = some (.bool lv) ∧ V2.cell? ⟨X3, 2, none⟩ = some (.int .i64 ln) from fun V2 h => ⟨cell_behind h h1, cell_behind h h2⟩)
 have HWR := Lib.hid (fun (v : World) => (show Calls Tryz.prog 23 #[.int .i64 ln] v fun e w' => e = .returned (.int .i64 (wrap31 ln)) ∧ w' = v from (rwrap_any ln v).mono fun e w' h => ⟨h.1, h.2.symm⟩))
 clear hB hl hlc hout
 obtain ⟨Q, hQ⟩ : ∃ Q, (bodyPost Tryz.prog Tryz.f27 (IntBelow out w)) = Q := ⟨_, rfl⟩
 have HQ := Lib.hid hQ
 rw [hQ]
 clear hQ
 unfold bkT18 Tryz.f27
 dsimp only
 cases lv
 · cases hin : inB ln (-1073741824) 1073741823
   · have HF := Lib.hid (show out = 2 from HO.out.trans (by simp [atomB, hin]))
     have hne : (wrap31 ln != ln) = true := by simpa using wrap31_out hin
     clear hin
     generalize wrap31 ln = z at *
     go_wp2_with fail
     go_quiet ((go_at_call 23; exact Calls.quiet_of_same (HWR.out _)))
     go_wp2_with fail
     rw [← HQ.out]
     go_ret
     exact ⟨ret_int HF.out.symm, below_drewN HB.out _⟩
   · have HF := Lib.hid (show out = 0 from HO.out.trans (by simp [atomB, hin, asksB]))
     have hne : (wrap31 ln != ln) = false := by simpa using wrap31_in hin
     clear hin
     generalize wrap31 ln = z at *
     go_wp2_with fail
     go_quiet ((go_at_call 23; exact Calls.quiet_of_same (HWR.out _)))
     go_wp2_with fail
     rw [← HQ.out]
     go_ret
     exact ⟨ret_int HF.out.symm, below_drewN HB.out _⟩
 · have HM := Lib.hid (show ∀ V2, Below V.heap.size V V2 → Calls Tryz.prog 46 #[.slice A' l'.length c', .int .i64 ln] V2 fun e w' => e = .returned (.bool (l'.contains ln)) ∧ V2 = w' from HH.out)
   have HO2 := Lib.hid (show out = if l'.contains ln = false then 16 else 0 from HO.out.trans (by simp [atomB, asksB]))
   clear HO HH
   generalize l'.contains ln = cb_ at *
   generalize l'.length = ll at *
   cases cb_
   · have HF := Lib.hid (show out = 16 from HO2.out)
     go_wp2_with fail
     go_quiet (fail)
     go_wp2_with (go_at_call 46; refine (HM.out _ (below_drewN (Below.refl _ _) _)).mono ?_; rintro en w' ⟨rfl, rfl⟩; dsimp only)
     rw [← HQ.out]
     go_ret
     exact ⟨ret_int HF.out.symm, below_drewN HB.out _⟩
   · have HF := Lib.hid (show out = 0 from HO2.out)
     go_wp2_with fail
     go_quiet (fail)
     go_wp2_with (go_at_call 46; refine (HM.out _ (below_drewN (Below.refl _ _) _)).mono ?_; rintro en w' ⟨rfl, rfl⟩; dsimp only)
     rw [← HQ.out]
     go_ret
     exact ⟨ret_int HF.out.symm, below_drewN HB.out _⟩
end Go.Proofs.YtnobggabjpcbfaaGreat
