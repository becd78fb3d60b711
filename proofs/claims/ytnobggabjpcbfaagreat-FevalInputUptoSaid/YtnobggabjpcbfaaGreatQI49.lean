/-
 1 texts of this seat in one: FV51.
-/
import Derived.Test.YtnobggabjpcbfaaGreatQI48
set_option maxRecDepth 100000
set_option maxHeartbeats 16000000
set_option linter.unusedVariables false
set_option linter.unusedSimpArgs false
namespace Go.Proofs.YtnobggabjpcbfaaGreat
open Go.RowKit
noncomputable def fiC4 : Code := match Tryz.f4.body with
 | some (.seq _ (.seq _ (.seq _ (.seq c _)))) => c
 | _ => .skip
noncomputable def fiT6 : Code := match Tryz.f4.body with
 | some (.seq _ (.seq _ (.seq _ (.seq _ c)))) => c
 | _ => .skip
theorem ints_takeF {B : Nat} {w : World} {A : Option Addr} {ks : List Int} (h : IntsIn B w A ks) (n : Nat) : IntsIn B w A (ks.take n) := by
 have hl := h.1
 have ht : (ks.take n).length ≤ ks.length := by simp; omega
 refine ⟨by omega, ?_⟩
 rcases h.2 with rfl | ⟨b, o, rfl, hb, hc⟩
 · exact .inl (by simp)
 · exact .inr ⟨b, o, rfl, hb, fun j hj => by
    rw [hc j (by omega)]
    unfold nth
    rw [List.getElem?_take_of_lt (by simp at hj; omega)]⟩
def askF (p : FlatP) (inp : List Int) (f : Int) : Nat := (runF p inp f).2.asked
theorem input_law {p : FlatP} {inp more : List Int} {sf : Int} {n : Nat} (hl : inp.length ≤ 60) (hm : more.length ≤ 60) (hn : askF p inp sf = n) (hle : n ≤ inp.length) : runE p (inp.take n) sf = runE p (inp.take n ++ more) sf := by
 unfold runE
 by_cases hr : rightC p = 0
 · rw [if_pos hr, if_pos hr]
   unfold askF runF at hn
   rw [List.take_of_length_le (by omega)] at hn
   unfold runF
   rw [List.take_of_length_le (i := 4096) (l := inp.take n) (by simp; omega), List.take_of_length_le (i := 4096) (l := inp.take n ++ more) (by simp; omega)]
   rw [inputF_ends hn hle]
 · rw [if_neg hr, if_neg hr]
theorem asked_cell {X : Nat → Prop} {B mb cb : Nat} {fv : Value} {inp : List Int} {fuel : FL} {W : World} {a b c : Value} {o : FOut} (h : OutIn X B mb cb fv inp fuel W a b c o) : W.cell? ⟨mb, 1, none⟩ = some (.int .i64 (o.2.asked : Int)) := by
 have key : ∀ {s : FSt} {c1 c2 c3 : Bool} {x0 x1 x2 : Value}, RIn X B mb cb fv inp fuel s c1 c2 c3 x0 x1 x2 W → W.cell? ⟨mb, 1, none⟩ = some (.int .i64 (s.asked : Int)) := by
  intro s c1 c2 c3 x0 x1 x2 hr
  obtain ⟨Ai, ci, Ao, co, Ac, cc, h1, -⟩ := hr.m
  exact cell_block h1 rfl
 obtain ⟨r, s⟩ := o
 cases r with
 | val v => exact key h.1
 | raised v => obtain ⟨y0, y1, y2, g1, -⟩ := h; exact key g1
 | stuck => obtain ⟨md, h⟩ := h; have := key h; exact this
 | cut => exact key h
theorem fi_tail4 {W V : World} (hb : Below W.heap.size W V) {X4 L ci n m cm : Nat} {Ai Am : Option Addr} {f : Int} (ht : n ≤ L → ∀ (y0 y5 y6 y7 y8 y10 y11 y12 y13 y14 y15 y16 y17 y18 y19 y20 y21 y22 y23 y24 y25 y26 y27 y28 y29 y30 y31 y32 y33 y34 y35 y36 y37 y38 y39 y40 y41 y42 y43 y44 y45 y46 y47 y48 y49 y50 y51 y52 y53 y54 y55 y56 y57 y58 y59 y60 y61 y62 y63 y64 y65 y66 y67 y68 y69 y70 : Value), fiT6.wp Tryz.prog (bodyPost Tryz.prog Tryz.f4 (BoolBelow true W)) { tmps := #[y0, .slice Ai L ci, .slice Am m cm, .int .i64 f, .pointer (some ⟨X4, 0, none⟩), y5, y6, y7, y8, .int .i64 (n : Int), y10, y11, y12, y13, y14, y15, y16, y17, y18, y19, y20, y21, y22, y23, y24, y25, y26, y27, y28, y29, y30, y31, y32, y33, y34, y35, y36, y37, y38, y39, y40, y41, y42, y43, y44, y45, y46, y47, y48, y49, y50, y51, y52, y53, y54, y55, y56, y57, y58, y59, y60, y61, y62, y63, y64, y65, y66, y67, y68, y69, y70], defers := [] } V) (u0 u5 u6 u7 u8 u10 u11 u12 u13 u14 u15 u16 u17 u18 u19 u20 u21 u22 u23 u24 u25 u26 u27 u28 u29 u30 u31 u32 u33 u34 u35 u36 u37 u38 u39 u40 u41 u42 u43 u44 u45 u46 u47 u48 u49 u50 u51 u52 u53 u54 u55 u56 u57 u58 u59 u60 u61 u62 u63 u64 u65 u66 u67 u68 u69 u70 : Value) :
 ∀ K : Act → World → Prop, (∀ a w, fiT6.wp Tryz.prog (bodyPost Tryz.prog Tryz.f4 (BoolBelow true W)) a w → K a w) → fiC4.wp Tryz.prog (Exit.then K (bodyPost Tryz.prog Tryz.f4 (BoolBelow true W))) { tmps := #[u0, .slice Ai L ci, .slice Am m cm, .int .i64 f, .pointer (some ⟨X4, 0, none⟩), u5, u6, u7, u8, .int .i64 (n : Int), u10, u11, u12, u13, u14, u15, u16, u17, u18, u19, u20, u21, u22, u23, u24, u25, u26, u27, u28, u29, u30, u31, u32, u33, u34, u35, u36, u37, u38, u39, u40, u41, u42, u43, u44, u45, u46, u47, u48, u49, u50, u51, u52, u53, u54, u55, u56, u57, u58, u59, u60, u61, u62, u63, u64, u65, u66, u67, u68, u69, u70], defers := [] } V := by
 intro K hK0
 have HK0 := Lib.hid hK0
 clear hK0
 have HT := Lib.hid ht
 have HK := Lib.hid (knows_any V)
 have HB := Lib.hid hb
 clear ht hb
 obtain ⟨Q, hQ⟩ : ∃ Q, (bodyPost Tryz.prog Tryz.f4 (BoolBelow true W)) = Q := ⟨_, rfl⟩
 have HQ := Lib.hid hQ
 rw [hQ] at HK0 HT ⊢
 clear hQ
 unfold fiC4 Tryz.f4
 dsimp only
 by_cases hc : n ≤ L
 · have h1 : (n : Int) ≤ (L : Int) := by omega
   have h2 : ¬ ((L : Int) < (n : Int)) := by omega
   go_wp2_with fail
   exact HK0.out _ _ (HT.out hc _ _ _ _ _ _ _ _ _ _ _ _ _ _ _ _ _ _ _ _ _ _ _ _ _ _ _ _ _ _ _ _ _ _ _ _ _ _ _ _ _ _ _ _ _ _ _ _ _ _ _ _ _ _ _ _ _ _ _ _ _ _ _ _ _ _)
 · have h1 : (L : Int) < (n : Int) := by omega
   clear HT
   go_wp2_with (go_at_call 6; refine HK.out.mono ?_; rintro en V4 ⟨rfl, hv4⟩)
   rw [← HQ.out]
   go_ret
   exact ⟨rfl, HB.out.trans (hv4.mono HB.out.size)⟩
theorem fi_walk {p : FlatP} {v : Array Value} (W : World) (hin : FlatIn W.heap.size W p v) (hrg : (∀ g ∈ p.funs, rngA g.body) ∧ rngA p.main) (inp : List Int) (Ai : Option Addr) (ci : Nat) (hi : IntsIn W.heap.size W Ai inp) (hci : inp.length ≤ ci) (more : List Int) (Am : Option Addr) (cm : Nat) (hi2 : IntsIn W.heap.size W Am more) (f : Int) :
 Calls Tryz.prog 4 #[.agg v, .slice Ai inp.length ci, .slice Am more.length cm, .int .i64 f] W (BoolBelow true W) := by
 obtain ⟨P2, p2, e2, P3, p3, e3, p4, p5, rfl⟩ := hin.shape
 obtain ⟨W0, hW0⟩ : ∃ W0, W.alloc (.cells #[.slice P2 p2 e2, .slice P3 p3 e3, .bool p4, .int .i64 p5] 29) = W0 := ⟨_, rfl⟩
 have hb0 : Below W.heap.size W W0 := by rw [← hW0]; exact (Below.refl _ _).alloc (Nat.le_refl _) _
 have h0 : W0.heap[W.heap.size]? = some (.cells #[.slice P2 p2 e2, .slice P3 p3 e3, .bool p4, .int .i64 p5] 29 (0, 0)) := by rw [← hW0]; exact World.alloc_heap_new W _
 have HS := Lib.hid (fun (V2 : World) (h : Below W0.heap.size W0 V2) => (show V2.cell? ⟨W.heap.size, 0, none⟩ = some (.slice P2 p2 e2) ∧ V2.cell? ⟨W.heap.size, 1, none⟩ = some (.slice P3 p3 e3) ∧ V2.cell? ⟨W.heap.size, 2, none⟩ = some (.bool p4) ∧ V2.cell? ⟨W.heap.size, 3, none⟩ = some (.int .i64 p5) from by
  have h' := (h.block _ (heap_lt h0)).trans h0
  exact ⟨by simp [World.cell?, h'], by simp [World.cell?, h'], by simp [World.cell?, h'], by simp [World.cell?, h']⟩))
 have hin0 := hin.later hb0
 have hi0 := (hi.below hb0).mono hb0.size
 have hm0 := (hi2.below hb0).mono hb0.size
 have HF := Lib.hid (fewF_any W0 hin0 inp Ai ci)
 have HB := Lib.hid hb0
 obtain ⟨z0, z1, z2, z3⟩ := HS.out W0 (Below.refl _ _)
 cases hfw : fewF p inp with
 | false =>
  rw [hfw] at HF
  clear hin hi hin0 hi0 hrg hfw hb0 h0 hci hm0 hi2
  generalize inp.length = L at *
  generalize more.length = m at *
  go_enter Tryz.func4, Tryz.ntmps4
  go_wp2_with (first | (go_at_call 5; refine HF.out.mono ?_; rintro e w1 ⟨rfl, hb1⟩; obtain ⟨z0, z1, z2, z3⟩ := HS.out w1 hb1) | (go_at_call 6; refine (knows_any _).mono ?_; rintro e w8 ⟨rfl, hb8⟩))
  go_ret
  have h1 := HB.out.trans (hb1.mono HB.out.size)
  exact ⟨rfl, h1.trans (hb8.mono h1.size)⟩
 | true =>
  rw [hfw] at HF
  have hsm : SmallF p := few_small hfw hrg
  by_cases hm : 60 < more.length
  · have hm1 : (60 : Int) < (more.length : Int) := by omega
    clear hin hi hin0 hi0 hrg hfw hb0 h0 hci hm0 hi2 hsm hm
    generalize inp.length = L at *
    generalize more.length = m at *
    go_enter Tryz.func4, Tryz.ntmps4
    go_wp2_with (first | (go_at_call 5; refine HF.out.mono ?_; rintro e w1 ⟨rfl, hb1⟩; obtain ⟨z0, z1, z2, z3⟩ := HS.out w1 hb1) | (go_at_call 6; refine (knows_any _).mono ?_; rintro e w8 ⟨rfl, hb8⟩))
    go_ret
    have h1 := HB.out.trans (hb1.mono HB.out.size)
    exact ⟨rfl, h1.trans (hb8.mono h1.size)⟩
  have hm1 : ¬ ((60 : Int) < (more.length : Int)) := by omega
  have HR1 := Lib.hid (fun (V2 : World) (h : Below W0.heap.size W0 V2) => rright_any hsm V2 (hin0.later h) (Nat.le_refl _))
  by_cases hr : r30 p = 0
  · rw [hr] at HR1
    have hrc : rightC p = 0 := by rw [← r30_eq hfw]; exact hr
    obtain ⟨sf, hsf⟩ : ∃ sf, min f 1500 = sf := ⟨_, rfl⟩
    obtain ⟨n, hn⟩ : ∃ n, askF p inp sf = n := ⟨_, rfl⟩
    have hil := (few_partsF hfw).2.2.2
    have HSH := Lib.hid (fun (V : World) => (show Calls Tryz.prog 8 #[.int .i64 f] V fun e w' => e = .returned (.int .i64 sf) ∧ V = w' from hsf ▸ short_any f V))
    have HASK := Lib.hid (fun (V : World) (h : Below W0.heap.size W0 V) => (show Calls Tryz.prog 13 #[.agg #[.slice P2 p2 e2, .slice P3 p3 e3, .bool p4, .int .i64 p5], .slice Ai inp.length ci, .int .i64 sf] V fun e w' => ∃ mb, e = .returned (.pointer (some ⟨mb, 0, none⟩)) ∧ w'.cell? ⟨mb, 1, none⟩ = some (.int .i64 (n : Int)) ∧ Below V.heap.size V w' from
     (rplay_any (play_ok hfw hrc) (hin0.later h) ((hi0.below h).mono h.size) hci (by omega) sf).mono fun e w' hp => by
      obtain ⟨mb, cb, fv, k, n', A, l, d, rfl, -, hb', ho⟩ := hp
      refine ⟨mb, rfl, ?_, hb'⟩
      have := asked_cell ho
      rw [show (runF p inp sf).2.asked = n from hn] at this
      exact this))
    have HT4 := Lib.hid (fun (V : World) (h : Below W0.heap.size W0 V) (y0 y5 y6 y7 y8 y10 y11 y12 y13 y14 y15 y16 y17 y18 y19 y20 y21 y22 y23 y24 y25 y26 y27 y28 y29 y30 y31 y32 y33 y34 y35 y36 y37 y38 y39 y40 y41 y42 y43 y44 y45 y46 y47 y48 y49 y50 y51 y52 y53 y54 y55 y56 y57 y58 y59 y60 y61 y62 y63 y64 y65 y66 y67 y68 y69 y70 : Value) =>
     (show (Code.seq fiC4 fiT6).wp Tryz.prog (bodyPost Tryz.prog Tryz.f4 (BoolBelow true W)) { tmps := #[y0, .slice Ai inp.length ci, .slice Am more.length cm, .int .i64 f, .pointer (some ⟨W.heap.size, 0, none⟩), y5, y6, y7, y8, .int .i64 (n : Int), y10, y11, y12, y13, y14, y15, y16, y17, y18, y19, y20, y21, y22, y23, y24, y25, y26, y27, y28, y29, y30, y31, y32, y33, y34, y35, y36, y37, y38, y39, y40, y41, y42, y43, y44, y45, y46, y47, y48, y49, y50, y51, y52, y53, y54, y55, y56, y57, y58, y59, y60, y61, y62, y63, y64, y65, y66, y67, y68, y69, y70], defers := [] } V from by
      have hbW := hb0.trans (h.mono hb0.size)
      refine wp_seq (fi_tail4 hbW (fun hle z0 z5 z6 z7 z8 z10 z11 z12 z13 z14 z15 z16 z17 z18 z19 z20 z21 z22 z23 z24 z25 z26 z27 z28 z29 z30 z31 z32 z33 z34 z35 z36 z37 z38 z39 z40 z41 z42 z43 z44 z45 z46 z47 z48 z49 z50 z51 z52 z53 z54 z55 z56 z57 z58 z59 z60 z61 z62 z63 z64 z65 z66 z67 z68 z69 z70 => ?_) _ _ _ _ _ _ _ _ _ _ _ _ _ _ _ _ _ _ _ _ _ _ _ _ _ _ _ _ _ _ _ _ _ _ _ _ _ _ _ _ _ _ _ _ _ _ _ _ _ _ _ _ _ _ _ _ _ _ _ _ _ _ _ _ _ _ _ (fun a w h => h))
      have hlt : (inp.take n).length = n := by simp; omega
      show (Code.seq fiR6 fiT7).wp Tryz.prog _ _ _
      refine wp_seq (fi_run6 (sf := sf) (pre := inp.take n) (more := more) (pa := runE p (inp.take n) sf) (pe := runE p (inp.take n ++ more) sf) hbW hlt rfl (by omega) (by omega) (by omega) ⟨by rw [input_law (more := more) hil (by omega) hn hle]; simp [sameE], by rw [input_law (more := more) hil (by omega) hn hle]⟩
       (fun V2 h2 => HS.out V2 (h.trans (h2.mono h.size))) (fun V2 => HSH.out V2) (fun V2 h2 => ints_row (ints_takeF (hi0.below (h.trans (h2.mono h.size))) n)) (fun V2 h2 => ints_row (hm0.below (h.trans (h2.mono h.size)))) (fun V2 A2 c2 h2 hi3 hc3 => ?_) (fun V2 h2 => ?_) (fun V2 _ => knows_any V2) _ _ _ _ _ _ _ _ _ _ _ _ _ _ _ _ _ _ _ _ _ _ _ _ _ _ _ _ _ _ _ _ _ _ _ _ _ _ _ _ _ _ _ _ _ _ _ _ _ _ _ _ _ _ _ _ _ _ _ _ _ _ _ _ _ _ _ (fun a w h => h))
      · have h3 := h.trans (h2.mono h.size)
        exact run_ready (hin0.later h3) hsm hi3 hc3 sf
      · have h3 := h.trans (h2.mono h.size)
        have := run_ready (hin0.later h3) hsm (ints_takeF ((hi0.below h3).mono h3.size) n) (ci := ci) (by omega) sf
        rw [hlt] at this
        exact this))
    clear hin hi hin0 hi0 hrg hfw hb0 h0 hci hm0 hi2 hsm hr hrc hsf hn hil
    generalize inp.length = L at *
    generalize more.length = m at *
    go_enter Tryz.func4, Tryz.ntmps4
    go_wp2_with (first | (go_at_call 5; refine HF.out.mono ?_; rintro e w1 ⟨rfl, hb1⟩; obtain ⟨z0, z1, z2, z3⟩ := HS.out w1 hb1) | (go_at_call 12; (with_reducible refine (HR1.out w1 hb1).mono ?_); rintro e w2 ⟨rfl, hq1⟩; have hb2 := hb1.trans (hq1.mono hb1.size); obtain ⟨x0, x1, x2, x3⟩ := HS.out w2 hb2))
    have D1 := Lib.hid (show Below W0.heap.size W0 w2.drew from hb2.drew)
    have HA1 := Lib.hid (HASK.out _ D1.out)
    obtain ⟨x0, x1, x2, x3⟩ := HS.out w2 hb2
    go_region_law ((first
     | (go_simp; go_at_call 8; refine (HSH.out _).mono ?_; rintro en w' ⟨rfl, rfl⟩)
     | (go_simp; go_at_call 13; (with_reducible refine HA1.out.mono ?_); rintro en w3 ⟨mb, rfl, q1, hb3⟩; have q2 := lt_of_cell q1)))
    all_goals
     simp only [Exit.then]
     refine (‹∀ (a : Act) (w : World), Code.wp Tryz.prog _ _ a w → _›) _ _ ?_
     exact HT4.out _ (D1.out.trans (hb3.mono D1.out.size)) _ _ _ _ _ _ _ _ _ _ _ _ _ _ _ _ _ _ _ _ _ _ _ _ _ _ _ _ _ _ _ _ _ _ _ _ _ _ _ _ _ _ _ _ _ _ _ _ _ _ _ _ _ _ _ _ _ _ _ _ _ _ _ _ _ _
  · obtain ⟨z, hz⟩ : ∃ z, r30 p = z := ⟨_, rfl⟩
    rw [hz] at HR1 hr
    have hn1 : (z == 0) = false := by simpa using hr
    have hn2 : (z != 0) = true := by simpa using hr
    clear hin hi hin0 hi0 hrg hfw hb0 h0 hci hm0 hi2 hsm hr hz hm
    generalize inp.length = L at *
    generalize more.length = m at *
    go_enter Tryz.func4, Tryz.ntmps4
    go_wp2_with (first | (go_at_call 5; refine HF.out.mono ?_; rintro e w1 ⟨rfl, hb1⟩; obtain ⟨z0, z1, z2, z3⟩ := HS.out w1 hb1) | (go_at_call 12; (with_reducible refine (HR1.out w1 hb1).mono ?_); rintro e w2 ⟨rfl, hq1⟩; have hb2 := hb1.trans (hq1.mono hb1.size); obtain ⟨x0, x1, x2, x3⟩ := HS.out w2 hb2) | (go_at_call 6; refine (knows_any _).mono ?_; rintro e w8 ⟨rfl, hb8⟩))
    go_ret
    have h1 := HB.out.trans (hb2.mono HB.out.size)
    exact ⟨rfl, h1.trans (hb8.mono h1.size)⟩
end Go.Proofs.YtnobggabjpcbfaaGreat
