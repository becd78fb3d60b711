/-
 1 texts of this seat in one: S3.
-/
import Derived.Test.YtnobggabjpcbfaaGreatQI37
import Derived.Test.YtnobggabjpcbfaaGreatQI36
set_option maxRecDepth 100000
set_option maxHeartbeats 16000000
set_option linter.unusedVariables false
set_option linter.unusedSimpArgs false
namespace Go.Proofs.YtnobggabjpcbfaaGreat
open Go.RowKit Go.Maps
noncomputable def bdT3 : Code := match Tryz.f44.body with
 | some (.seq _ (.seq _ (.seq _ c))) => c
 | _ => .skip
noncomputable def bdT5 : Code := match Tryz.f44.body with
 | some (.seq _ (.seq _ (.seq _ (.seq _ c)))) => c
 | _ => .skip
noncomputable def bdT7 : Code := match Tryz.f44.body with
 | some (.seq _ (.seq _ (.seq _ (.seq _ (.seq _ c))))) => c
 | _ => .skip
noncomputable def bdT12 : Code := match Tryz.f44.body with
 | some (.seq _ (.seq _ (.seq _ (.seq _ (.seq _ (.seq _ c)))))) => c
 | _ => .skip
noncomputable def bdT17 : Code := match Tryz.f44.body with
 | some (.seq _ (.seq _ (.seq _ (.seq _ (.seq _ (.seq _ (.seq _ c))))))) => c
 | _ => .skip
noncomputable def bdT19 : Code := match Tryz.f44.body with
 | some (.seq _ (.seq _ (.seq _ (.seq _ (.seq _ (.seq _ (.seq _ (.seq _ c)))))))) => c
 | _ => .skip
noncomputable def bdT21 : Code := match Tryz.f44.body with
 | some (.seq _ (.seq _ (.seq _ (.seq _ (.seq _ (.seq _ (.seq _ (.seq _ (.seq _ c))))))))) => c
 | _ => .skip
noncomputable def bdT26 : Code := match Tryz.f44.body with
 | some (.seq _ (.seq _ (.seq _ (.seq _ (.seq _ (.seq _ (.seq _ (.seq _ (.seq _ (.seq _ c)))))))))) => c
 | _ => .skip
noncomputable def bdT31 : Code := match Tryz.f44.body with
 | some (.seq _ (.seq _ (.seq _ (.seq _ (.seq _ (.seq _ (.seq _ (.seq _ (.seq _ (.seq _ (.seq _ c))))))))))) => c
 | _ => .skip
noncomputable def bdT33 : Code := match Tryz.f44.body with
 | some (.seq _ (.seq _ (.seq _ (.seq _ (.seq _ (.seq _ (.seq _ (.seq _ (.seq _ (.seq _ (.seq _ (.seq _ c)))))))))))) => c
 | _ => .skip
noncomputable def bdC3 : Code := match Tryz.f44.body with
 | some (.seq _ (.seq _ (.seq _ (.seq c _)))) => c
 | _ => .skip
noncomputable def bdC5 : Code := match Tryz.f44.body with
 | some (.seq _ (.seq _ (.seq _ (.seq _ (.seq c _))))) => c
 | _ => .skip
noncomputable def bdC7 : Code := match Tryz.f44.body with
 | some (.seq _ (.seq _ (.seq _ (.seq _ (.seq _ (.seq c _)))))) => c
 | _ => .skip
noncomputable def bdC12 : Code := match Tryz.f44.body with
 | some (.seq _ (.seq _ (.seq _ (.seq _ (.seq _ (.seq _ (.seq c _))))))) => c
 | _ => .skip
noncomputable def bdC17 : Code := match Tryz.f44.body with
 | some (.seq _ (.seq _ (.seq _ (.seq _ (.seq _ (.seq _ (.seq _ (.seq c _)))))))) => c
 | _ => .skip
noncomputable def bdC19 : Code := match Tryz.f44.body with
 | some (.seq _ (.seq _ (.seq _ (.seq _ (.seq _ (.seq _ (.seq _ (.seq _ (.seq c _))))))))) => c
 | _ => .skip
noncomputable def bdC21 : Code := match Tryz.f44.body with
 | some (.seq _ (.seq _ (.seq _ (.seq _ (.seq _ (.seq _ (.seq _ (.seq _ (.seq _ (.seq c _)))))))))) => c
 | _ => .skip
noncomputable def bdC26 : Code := match Tryz.f44.body with
 | some (.seq _ (.seq _ (.seq _ (.seq _ (.seq _ (.seq _ (.seq _ (.seq _ (.seq _ (.seq _ (.seq c _))))))))))) => c
 | _ => .skip
noncomputable def bdC31 : Code := match Tryz.f44.body with
 | some (.seq _ (.seq _ (.seq _ (.seq _ (.seq _ (.seq _ (.seq _ (.seq _ (.seq _ (.seq _ (.seq _ (.seq c _)))))))))))) => c
 | _ => .skip
noncomputable def bdR32 : Code := match Tryz.f44.body with
 | some (.seq _ (.seq _ (.seq _ (.seq _ (.seq _ (.seq _ (.seq _ (.seq _ (.seq _ (.seq _ (.seq _ (.seq (.seq _ (.cond _ c _)) _)))))))))))) => c
 | _ => .skip
def IntBelow (z : Int) (w : World) (e : Ending) (w' : World) : Prop := e = .returned (.int .i64 z) ∧ Below w.heap.size w w'
structure BCtx (w W1 : World) (X3 X7 : Nat) (x k n : Int) (Aa Ak Al A2 : Option Addr) (ats : List Atm) (ks : List Int) (ca ck nb cb c2 : Nat) (l : List Int) : Prop where
 bel : Below w.heap.size w W1
 h3 : W1.heap[X3]? = some (.cells #[.int .i64 x, .int .i64 k, .int .i64 n, .slice Aa ats.length ca, .slice Ak ks.length ck, .slice Al nb cb] 62 (0, 0))
 h7 : W1.heap[X7]? = some (.cells #[.int .i64 k, .int .i64 n, .slice Aa ats.length ca, .slice Ak ks.length ck, .slice Al nb cb] 60 (0, 0))
 ha : AtomsIn W1.heap.size W1 Aa ats
 hac : ats.length ≤ ca
 hk : IntsIn W1.heap.size W1 Ak ks
 hkc : ks.length ≤ ck
 hl : IntsIn W1.heap.size W1 A2 l
 hlc : l.length ≤ c2
section
variable {w W1 : World} {X3 X7 : Nat} {x k n : Int} {Aa Ak Al A2 : Option Addr} {ats : List Atm} {ks : List Int} {ca ck nb cb c2 : Nat} {l : List Int} {out : Int} {V : World}
theorem BCtx.out_ (C : BCtx w W1 X3 X7 x k n Aa Ak Al A2 ats ks ca ck nb cb c2 l) (hV : Below W1.heap.size W1 V) : Below w.heap.size w V := C.bel.trans (hV.mono C.bel.size)
theorem BCtx.cells7 (C : BCtx w W1 X3 X7 x k n Aa Ak Al A2 ats ks ca ck nb cb c2 l) (hV : Below W1.heap.size W1 V) : V.cell? ⟨X7, 0, none⟩ = some (.int .i64 k) ∧ V.cell? ⟨X7, 1, none⟩ = some (.int .i64 n) ∧ V.cell? ⟨X7, 2, none⟩ = some (.slice Aa ats.length ca) ∧ V.cell? ⟨X7, 3, none⟩ = some (.slice Ak ks.length ck) ∧ V.cell? ⟨X7, 4, none⟩ = some (.slice Al nb cb) := by
 have h := (hV.block _ (heap_lt C.h7)).trans C.h7
 exact ⟨by simp [World.cell?, h], by simp [World.cell?, h], by simp [World.cell?, h], by simp [World.cell?, h], by simp [World.cell?, h]⟩
theorem BCtx.cells3 (C : BCtx w W1 X3 X7 x k n Aa Ak Al A2 ats ks ca ck nb cb c2 l) (hV : Below W1.heap.size W1 V) : V.cell? ⟨X3, 0, none⟩ = some (.int .i64 x) ∧ V.cell? ⟨X3, 1, none⟩ = some (.int .i64 k) ∧ V.cell? ⟨X3, 2, none⟩ = some (.int .i64 n) ∧ V.cell? ⟨X3, 3, none⟩ = some (.slice Aa ats.length ca) ∧ V.cell? ⟨X3, 4, none⟩ = some (.slice Ak ks.length ck) ∧ V.cell? ⟨X3, 5, none⟩ = some (.slice Al nb cb) := by
 have h := (hV.block _ (heap_lt C.h3)).trans C.h3
 exact ⟨by simp [World.cell?, h], by simp [World.cell?, h], by simp [World.cell?, h], by simp [World.cell?, h], by simp [World.cell?, h], by simp [World.cell?, h]⟩
theorem BCtx.atoms (C : BCtx w W1 X3 X7 x k n Aa Ak Al A2 ats ks ca ck nb cb c2 l) (hV : Below W1.heap.size W1 V) (j : Nat) (hj : j < ats.length) : ∃ b o, Aa = some ⟨b, o, none⟩ ∧ V.cell? ⟨b, o + j * 2, none⟩ = some (.bool (ats[j]?.getD default).v) ∧ V.cell? ⟨b, o + j * 2 + 1, none⟩ = some (.int .i64 (ats[j]?.getD default).n) := by
 rcases C.ha.2 with h0 | ⟨b, o, h1, h2, h3⟩
 · rw [h0] at hj; simp at hj
 · exact ⟨b, o, h1, (hV.cell (p := ⟨_, _, none⟩) h2).trans (h3 j hj).1, (hV.cell (p := ⟨_, _, none⟩) h2).trans (h3 j hj).2⟩
theorem BCtx.keys (C : BCtx w W1 X3 X7 x k n Aa Ak Al A2 ats ks ca ck nb cb c2 l) (hV : Below W1.heap.size W1 V) (j : Nat) (hj : j < ks.length) : ∃ b o, Ak = some ⟨b, o, none⟩ ∧ (∀ i, i < ks.length → V.cell? ⟨b, o + i, none⟩ = some (.int .i64 (nth ks i))) := by
 obtain ⟨b, o, h1, h2, h3⟩ := C.hk.at_ (by omega)
 exact ⟨b, o, h1, fun i hi => (hV.cell (p := ⟨_, _, none⟩) h2).trans (h3 i hi)⟩
theorem BCtx.known (C : BCtx w W1 X3 X7 x k n Aa Ak Al A2 ats ks ca ck nb cb c2 l) (hV : Below W1.heap.size W1 V) : IntsIn V.heap.size V A2 l := (C.hl.below hV).mono hV.size
theorem getD_at {ats : List Atm} {j : Nat} (h : j < ats.length) : ats[j]? = some (ats[j]?.getD default) := by rw [List.getElem?_eq_getElem h]; rfl
theorem bd_T33 (C : BCtx w W1 X3 X7 x k n Aa Ak Al A2 ats ks ca ck nb cb c2 l) (hV : Below W1.heap.size W1 V) {A' : Option Addr} {c' : Nat} {l' : List Int} (hl : IntsIn V.heap.size V A' l') (hlc : l'.length ≤ c') (hout : out = if ats.all (asksB l') = false then 16 else 0) (u0 u1 u4 u5 u6 u8 u9 u10 u11 u12 u13 u14 u15 u16 u17 u18 u19 u20 u21 u22 u23 u24 u25 u26 u27 u28 u29 u30 u31 u32 u33 u34 u35 u36 u37 u38 u39 u40 u41 u42 u43 u44 u45 u46 u47 u48 u49 u50 u51 u52 u53 u54 u55 u56 u57 u58 u59 u60 u61 u62 u63 u64 u65 u66 u67 u68 u69 u70 u71 u72 u73 u74 u75 u76 u77 u78 u79 u80 u81 u82 u83 u84 u85 u86 u87 u88 u89 u90 u91 u92 u93 u94 u95 u96 u97 u98 u99 u100 u101 u102 u103 u104 u105 u106 u107 u108 u109 u110 u111 u112 u113 u114 u115 u116 u117 u118 u119 u120 u121 u122 u123 u124 u125 u126 u127 u128 u129 u130 u131 u132 u133 u134 u135 u136 u137 u138 u139 u140 u141 u142 u143 u144 u145 u146 u147 u148 u149 u150 u151 u152 u153 u154 u155 u156 u157 u158 u159 u160 u161 u162 u163 u164 u165 u166 u167 u168 u169 u170 u171 u172 u173 u174 u175 u176 u177 u178 u179 u180 u181 u182 u183 u184 u185 u186 u187 u188 u189 u190 u191 u192 u193 u194 u195 u196 u197 u198 u199 u200 u201 u202 u203 u204 u205 u206 u207 u208 u209 u210 u211 u212 u213 u214 u215 u216 u217 u218 u219 u220 u221 u222 u223 u224 u225 u226 u227 u228 u229 u230 u231 u232 u233 u234 u235 u236 : Value) :
 bdT33.wp Tryz.prog (bodyPost Tryz.prog Tryz.f44 (IntBelow out w)) { tmps := #[u0, u1, .slice A' l'.length c', .pointer (some ⟨X3, 0, none⟩), u4, u5, u6, .pointer (some ⟨X7, 0, none⟩), u8, u9, u10, u11, u12, u13, u14, u15, u16, u17, u18, u19, u20, u21, u22, u23, u24, u25, u26, u27, u28, u29, u30, u31, u32, u33, u34, u35, u36, u37, u38, u39, u40, u41, u42, u43, u44, u45, u46, u47, u48, u49, u50, u51, u52, u53, u54, u55, u56, u57, u58, u59, u60, u61, u62, u63, u64, u65, u66, u67, u68, u69, u70, u71, u72, u73, u74, u75, u76, u77, u78, u79, u80, u81, u82, u83, u84, u85, u86, u87, u88, u89, u90, u91, u92, u93, u94, u95, u96, u97, u98, u99, u100, u101, u102, u103, u104, u105, u106, u107, u108, u109, u110, u111, u112, u113, u114, u115, u116, u117, u118, u119, u120, u121, u122, u123, u124, u125, u126, u127, u128, u129, u130, u131, u132, u133, u134, u135, u136, u137, u138, u139, u140, u141, u142, u143, u144, u145, u146, u147, u148, u149, u150, u151, u152, u153, u154, u155, u156, u157, u158, u159, u160, u161, u162, u163, u164, u165, u166, u167, u168, u169, u170, u171, u172, u173, u174, u175, u176, u177, u178, u179, u180, u181, u182, u183, u184, u185, u186, u187, u188, u189, u190, u191, u192, u193, u194, u195, u196, u197, u198, u199, u200, u201, u202, u203, u204, u205, u206, u207, u208, u209, u210, u211, u212, u213, u214, u215, u216, u217, u218, u219, u220, u221, u222, u223, u224, u225, u226, u227, u228, u229, u230, u231, u232, u233, u234, u235, u236], defers := [] } V := by
 obtain ⟨-, -, q2, -, -⟩ := C.cells7 hV
 have HA := Lib.hid (C.atoms hV)
 have HH := Lib.hid (fun (m : Int) => rhas_any A' c' l' m V hl hlc)
 have HO := Lib.hid hout
 have HB := Lib.hid (C.out_ hV)
 have h16 := C.ha.1
 have hac := C.hac
 clear C hV hl hlc hout
 obtain ⟨L, hL⟩ : ∃ L, ats.length = L := ⟨_, rfl⟩
 have HL := Lib.hid hL
 rw [hL] at q2 HA h16 hac
 clear hL
 generalize l'.length = ll at *
 obtain ⟨Q, hQ⟩ : ∃ Q, (bodyPost Tryz.prog Tryz.f44 (IntBelow out w)) = Q := ⟨_, rfl⟩
 have HQ := Lib.hid hQ
 rw [hQ]
 clear hQ
 unfold bdT33 Tryz.f44
 dsimp only
 go_wp2_with fail
 go_loopw [17] (fun iv wr => ∃ j : Nat, j ≤ L ∧ iv = .int .i64 (j : Int) ∧ V = wr ∧ Hid ((ats.take j).all (asksB l') = true)) (fun iv _ => L + 1 - (intOf iv).toNat)
 case atStart => exact ⟨0, by omega, rfl, rfl, Lib.hid (by simp)⟩
 case round =>
  obtain ⟨j, hj, rfl, rfl, HT⟩ := hrel
  by_cases hlt : j < L
  · obtain ⟨b, o, rfl, y0, y1⟩ := HA.out j hlt
    have e1 : (0 : Int) ≤ (j : Int) := by omega
    have e2 : (j : Int) < (L : Int) := by omega
    have e4 : IntKind.i64.wrap ((j : Int) + 1) = (j : Int) + 1 := by rw [IntKind.wrap_i64]; omega
    have e5 : (L : Int) ≤ (ca : Int) := by omega
    have HG := Lib.hid (getD_at (ats := ats) (j := j) (by rw [HL.out]; exact hlt))
    generalize ats[j]?.getD default = at_ at *
    obtain ⟨v, m⟩ := at_
    simp only [] at y0 y1
    cases v
    · have HT2 := Lib.hid (all_take_succ HG.out HT.out (f := asksB l') rfl)
      go_wp2_with fail
      go_roundw
      case rel => exact ⟨j + 1, by omega, by go_num, (by first | rfl | trivial), HT2⟩
      case measure => simp [intOf]; omega
    · have HM := Lib.hid (HH.out m)
      have HAS := Lib.hid (show asksB l' ⟨true, m⟩ = l'.contains m from rfl)
      generalize l'.contains m = cb_ at *
      cases cb_
      · have HF := Lib.hid (show out = 16 from HO.out.trans (by rw [if_pos (all_false HG.out HAS.out)]))
        go_wp2_with (go_at_call 46; refine HM.out.mono ?_; rintro en w' ⟨rfl, rfl⟩)
        rw [← HQ.out]
        go_ret
        exact ⟨ret_int HF.out.symm, HB.out⟩
      · have HT2 := Lib.hid (all_take_succ HG.out HT.out (f := asksB l') HAS.out)
        go_wp2_with (go_at_call 46; refine HM.out.mono ?_; rintro en w' ⟨rfl, rfl⟩)
        go_roundw
        case rel => exact ⟨j + 1, by omega, by go_num, (by first | rfl | trivial), HT2⟩
        case measure => simp [intOf]; omega
  · have e2 : ¬ (j : Int) < (L : Int) := by omega
    have HF := Lib.hid (show out = 0 from HO.out.trans (by
     have h := HT.out
     rw [List.take_of_length_le (by rw [HL.out]; omega)] at h
     rw [if_neg (by rw [h]; decide)]))
    go_wp2_with fail
    rw [← HQ.out]
    go_ret
    exact ⟨ret_int HF.out.symm, HB.out⟩
end
end Go.Proofs.YtnobggabjpcbfaaGreat
