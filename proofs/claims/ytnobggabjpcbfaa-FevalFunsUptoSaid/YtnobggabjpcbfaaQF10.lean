/-
  2 texts of this seat in one: Y4 Y5.
-/
import Derived.Test.YtnobggabjpcbfaaQF9
import Derived.Test.YtnobggabjpcbfaaQF2
import Derived.Test.YtnobggabjpcbfaaQF7
/-
  The plain laws: what camletref30.Right lets through clos.Right lets through; functions that are not called; groups of one.
-/
set_option linter.unusedVariables false
set_option linter.unusedSimpArgs false
namespace Go.Proofs.Ytnobggabjpcbfaa
open Go.RowKit

mutual
theorem deepA_dp : ∀ (t : Anf) (m : Nat) (n : Int), deepA t m n ≤ max n (dpN t)
  | .ret _, m, n => by simp [deepA, dpN]; omega
  | .bind _ _ _ _ _ bl r, m, n => by
    have h1 := deepL_dp bl m n
    have h2 := deepA_dp r m (deepL bl m n)
    simp only [deepA, dpN]
    omega
theorem deepL_dp : ∀ (l : List Anf) (m : Nat) (n : Int), deepL l m n ≤ max n (dpL l)
  | [], m, n => by simp [deepL, dpL]; omega
  | c :: cs, 0, n => by
    have h2 := deepL_dp cs 0 n
    simp only [deepL, dpL]
    omega
  | c :: cs, m + 1, n => by
    have h1 := deepA_dp c m 0
    have h2 := deepL_dp cs (m + 1) (max n (deepA c m 0 + 1))
    simp only [deepL, dpL]
    omega
end
theorem sizeB_tot (t : Anf) (most : Int) : sizeB t most ≤ totA t := by
  have h1 := (sizeA_le most t t.len).2
  have h2 := subA_len t
  unfold sizeB
  omega
theorem longB_no : ∀ (l : List Anf) (n : Int), (∀ a ∈ l, dpN a + 1 ≤ 400) → n + ((l.map totA).sum : Nat) ≤ 65536 → longB l n = false
  | [], n, _, _ => rfl
  | b :: bs, n, hd, hn => by
    simp only [List.map_cons, List.sum_cons] at hn
    have h1 := sizeB_tot b 65536
    have h2 := hd b (by simp)
    have h3 := deepA_dp b 400 0
    have h4 : deepB b 400 ≤ 400 := by unfold deepB; omega
    have h5 := longB_no bs (n + sizeB b 65536) (fun a ha => hd a (by simp [ha])) (by omega)
    unfold longB
    rw [if_neg (by omega)]
    exact h5
theorem dpF_ge : ∀ (l : List FFun) (m : Nat), m ≤ dpF l m ∧ ∀ g ∈ l, dpN g.body + 1 ≤ dpF l m
  | [], m => ⟨Nat.le_refl _, by simp⟩
  | g :: gs, m => by
    obtain ⟨h1, h2⟩ := dpF_ge gs (max m (dpN g.body + 1))
    simp only [dpF]
    refine ⟨by omega, fun x hx => ?_⟩
    rcases List.mem_cons.1 hx with rfl | hx
    · omega
    · exact h2 x hx
theorem totF_sum : ∀ (l : List FFun), ((l.map (·.body)).map totA).sum = totF l
  | [] => rfl
  | g :: gs => by simp only [List.map_cons, List.sum_cons, totF, totF_sum gs]
/-- **what the document's Right lets through, clos.Right does** -/
theorem rightC_of_r30 {p : FlatP} (h : r30 p = 0) : rightC p = 0 := by
  unfold r30 at h
  obtain ⟨h1, h⟩ := ite_zero h (fun _ => by decide)
  obtain ⟨h2, h⟩ := ite_zero h (fun _ => by decide)
  obtain ⟨h3, h⟩ := ite_zero h (fun h => h)
  have h4 := dpF_ge p.funs (dpN p.main + 1)
  have hl : longB (allB p) 0 = false := by
    refine longB_no _ _ (fun a ha => ?_) ?_
    · simp only [allB, List.mem_append, List.mem_map, List.mem_singleton] at ha
      rcases ha with ⟨g, hg, rfl⟩ | rfl
      · have := h4.2 g hg; omega
      · have := h4.1; omega
    · unfold allB
      rw [List.map_append, List.sum_append, totF_sum]
      simp only [List.map_cons, List.map_nil, List.sum_cons, List.sum_nil]
      omega
  unfold rightC
  have hl' : longB (p.funs.map (·.body) ++ [p.main]) 0 = false := hl
  rw [if_neg h1, hl', if_neg (by decide), if_neg h3]
  exact h
theorem grpOk_of {nf : Nat} : ∀ (ks : List Int), (groupF ks).all (fun f => inB f 0 ((nf : Int) - 1)) = true → grpOk nf ks
  | x :: f :: y :: ks, h => by
    simp only [groupF, List.all_cons, Bool.and_eq_true] at h
    have h1 := inB_iff.1 h.1
    exact ⟨h1.1, by omega, grpOk_of ks h.2⟩
  | [], _ => trivial
  | [_], _ => trivial
  | [_, _], _ => trivial
theorem ok_of_wf {nf : Nat} {t : Anf} (h : WfA nf t) : OkA nf t := by
  induction h with
  | ret a => exact .ret a
  | @bind x k n ats ks bl rest he hb hr ih1 ih2 =>
    have hok := bindOk_of he
    refine .bind (fun hk => ?_) (fun hk => ?_) ih1 ih2
    · subst hk; have := hok.close; exact ⟨this.2.1, this.2.2⟩
    · subst hk; exact grpOk_of ks hok.group.2.2.2.2
/-- **FevalFuns, plain** -/
theorem funs_law (p : FlatP) (more : FFun) (inp : List Int) (f : Int) (h1 : r30 p = 0) (h2 : r30 ⟨p.funs ++ [more], p.main⟩ = 0) : sameE (runE p inp f) (runE ⟨p.funs ++ [more], p.main⟩ inp f) = true ∧ (runE p inp f).steps = (runE ⟨p.funs ++ [more], p.main⟩ inp f).steps := by
  have c1 := rightC_of_r30 h1
  have c2 := rightC_of_r30 h2
  obtain ⟨w1, w2⟩ := wf_of_rightC c1
  have he : runE ⟨p.funs ++ [more], p.main⟩ inp f = runE p inp f := by
    unfold runE
    rw [if_pos c1, if_pos c2]
    unfold runF
    rw [funs_ends more (inp.take 4096) (fuelOf f) (fun g hg => ok_of_wf (w1 g hg)) (ok_of_wf w2)]
  rw [he]
  exact ⟨by simp [sameE], rfl⟩
theorem szFuns_app : ∀ (l : List FFun) (g : FFun), szFuns (l ++ [g]) = szFuns l + (2 + szA g.body)
  | [], g => by simp [szFuns]
  | x :: l, g => by simp only [List.cons_append, szFuns, szFuns_app l g]; omega
end Go.Proofs.Ytnobggabjpcbfaa

/-
  FevalFuns: the walk.
-/
set_option linter.unusedVariables false
set_option linter.unusedSimpArgs false
namespace Go.Proofs.Ytnobggabjpcbfaa
open Go.RowKit

set_option maxRecDepth 100000 in
set_option maxHeartbeats 16000000 in
theorem funs_tail2 {W V : World} (hb : Below W.heap.size W V) {X4 X9 L ci nf cf ng c9 n1 d1 : Nat} {Ai Af A1 A9 : Option Addr} {b1 : Bool} {k1 f : Int} {p g : FlatP} {inp : List Int} (hL : inp.length = L)
    (hS : ∀ V2, Below V.heap.size V V2 → V2.cell? ⟨X4, 0, none⟩ = some (.slice Af nf cf) ∧ V2.cell? ⟨X4, 1, none⟩ = some (.slice A1 n1 d1) ∧ V2.cell? ⟨X4, 2, none⟩ = some (.bool b1) ∧ V2.cell? ⟨X4, 3, none⟩ = some (.int .i64 k1)) (hS9 : ∀ V2, Below V.heap.size V V2 → V2.cell? ⟨X9, 0, none⟩ = some (.slice A9 ng c9) ∧ V2.cell? ⟨X9, 1, none⟩ = some (.slice A1 n1 d1) ∧ V2.cell? ⟨X9, 2, none⟩ = some (.bool b1) ∧ V2.cell? ⟨X9, 3, none⟩ = some (.int .i64 k1))
    (hp : FlatIn V.heap.size V p #[.slice Af nf cf, .slice A1 n1 d1, .bool b1, .int .i64 k1]) (hg : FlatIn V.heap.size V g #[.slice A9 ng c9, .slice A1 n1 d1, .bool b1, .int .i64 k1]) (hi : IntsIn V.heap.size V Ai inp) (hci : inp.length ≤ ci)
    (hsm : fewF g inp = true → SmallF p ∧ SmallF g) (hlaw : fewF g inp = true → r30 p = 0 → r30 g = 0 → sameE (runE p inp (min f 1500)) (runE g inp (min f 1500)) = true ∧ (runE p inp (min f 1500)).steps = (runE g inp (min f 1500)).steps) (u0 u2 u5 u6 u7 u8 u10 u11 u12 u13 u14 u15 u16 u17 u18 u19 u20 u21 u22 u23 u24 u25 u26 u27 u28 u29 u30 u31 u32 u33 u34 u35 u36 u37 u38 u39 u40 u41 u42 u43 u44 u45 u46 u47 u48 u49 u50 u51 u52 u53 u54 u55 u56 u57 u58 u59 : Value) :
    funsT2.wp Try.prog (bodyPost Try.prog Try.f4 (BoolBelow true W)) { tmps := #[u0, .slice Ai L ci, u2, .int .i64 f, .pointer (some ⟨X4, 0, none⟩), u5, u6, u7, u8, .pointer (some ⟨X9, 0, none⟩), u10, u11, u12, u13, u14, u15, u16, u17, u18, u19, u20, u21, u22, u23, u24, u25, u26, u27, u28, u29, u30, u31, u32, u33, u34, u35, u36, u37, u38, u39, u40, u41, u42, u43, u44, u45, u46, u47, u48, u49, u50, u51, u52, u53, u54, u55, u56, u57, u58, u59], defers := [] } V := by
  have HF := Lib.hid (fewF_any V hg inp Ai ci)
  rw [hL] at HF
  have HB := Lib.hid hb
  have HS := Lib.hid hS
  have HS9 := Lib.hid hS9
  obtain ⟨z0, z1, z2, z3⟩ := hS V (Below.refl _ _)
  obtain ⟨z4, z5, z6, z7⟩ := hS9 V (Below.refl _ _)
  cases hfw : fewF g inp with
  | false =>
    rw [hfw] at HF
    clear hb hS hS9 hp hg hi hsm hlaw hfw
    unfold funsT2 Try.f4
    dsimp only
    go_wp2_with (first | (go_at_call 7; refine HF.out.mono ?_; rintro e w1 ⟨rfl, hb1⟩; obtain ⟨x0, x1, x2, x3⟩ := HS.out w1 hb1; obtain ⟨x4, x5, x6, x7⟩ := HS9.out w1 hb1) | (go_at_call 8; refine (knows_any _).mono ?_; rintro e w8 ⟨rfl, hb8⟩))
    go_ret
    have h1 := HB.out.trans (hb1.mono HB.out.size)
    exact ⟨rfl, h1.trans (hb8.mono h1.size)⟩
  | true =>
    rw [hfw] at HF
    obtain ⟨sm1, sm2⟩ := hsm hfw
    have HR1 := Lib.hid (fun (V2 : World) (h : Below V.heap.size V V2) => rright_any sm1 V2 (hp.later h) (Nat.le_refl _))
    have HR2 := Lib.hid (fun (V2 : World) (h : Below V.heap.size V V2) => rright_any sm2 V2 (hg.later h) (Nat.le_refl _))
    by_cases h1 : r30 p = 0
    · rw [h1] at HR1
      by_cases h2 : r30 g = 0
      · rw [h2] at HR2
        have HGO := Lib.hid (fun (V2 : World) (h : Below V.heap.size V V2) (y0 y2 y5 y6 y7 y8 y10 y11 y12 y13 y14 y15 y16 y17 y18 y19 y20 y21 y22 y23 y24 y25 y26 y27 y28 y29 y30 y31 y32 y33 y34 y35 y36 y37 y38 y39 y40 y41 y42 y43 y44 y45 y46 y47 y48 y49 y50 y51 y52 y53 y54 y55 y56 y57 y58 y59 : Value) =>
          (show ∀ K : Act → World → Prop, (∀ a w, funsT5.wp Try.prog (bodyPost Try.prog Try.f4 (BoolBelow true W)) a w → K a w) → funsR4.wp Try.prog (Exit.then K (bodyPost Try.prog Try.f4 (BoolBelow true W))) { tmps := #[y0, .slice Ai L ci, y2, .int .i64 f, .pointer (some ⟨X4, 0, none⟩), y5, y6, y7, y8, .pointer (some ⟨X9, 0, none⟩), y10, y11, y12, y13, y14, y15, y16, y17, y18, y19, y20, y21, y22, y23, y24, y25, y26, y27, y28, y29, y30, y31, y32, y33, y34, y35, y36, y37, y38, y39, y40, y41, y42, y43, y44, y45, y46, y47, y48, y49, y50, y51, y52, y53, y54, y55, y56, y57, y58, y59], defers := [] } V2 from
            funs_runs4 (sf := min f 1500) (hb.trans (h.mono hb.size)) (hlaw hfw h1 h2) (fun V3 h3 => hS V3 (h.trans (h3.mono h.size))) (fun V3 h3 => hS9 V3 (h.trans (h3.mono h.size))) (fun V3 => short_any f V3)
              (fun V3 h3 => by
                have h4 := h.trans (h3.mono h.size)
                have := run_ready (hp.later h4) sm1 ((hi.below h4).mono h4.size) hci (min f 1500)
                rwa [hL] at this)
              (fun V3 h3 => by
                have h4 := h.trans (h3.mono h.size)
                have := run_ready (hg.later h4) sm2 ((hi.below h4).mono h4.size) hci (min f 1500)
                rwa [hL] at this)
              (fun V3 _ => knows_any V3) _ _ _ _ _ _ _ _ _ _ _ _ _ _ _ _ _ _ _ _ _ _ _ _ _ _ _ _ _ _ _ _ _ _ _ _ _ _ _ _ _ _ _ _ _ _ _ _ _ _ _ _ _ _ _ _))
        clear hb hS hS9 hp hg hi hsm hlaw hfw sm1 sm2 h1 h2 hci
        unfold funsT2 Try.f4
        dsimp only
        go_wp2_with (first | (go_at_call 7; refine HF.out.mono ?_; rintro e w1 ⟨rfl, hb1⟩; obtain ⟨x0, x1, x2, x3⟩ := HS.out w1 hb1; obtain ⟨x4, x5, x6, x7⟩ := HS9.out w1 hb1) | (go_at_call 13; (with_reducible refine (HR1.out w1 hb1).mono ?_); rintro e w2 ⟨rfl, hq1⟩; have hb2 := (hb1).trans (hq1.mono (hb1).size); obtain ⟨x0, x1, x2, x3⟩ := HS.out w2 hb2; obtain ⟨x4, x5, x6, x7⟩ := HS9.out w2 hb2) | (go_at_call 13; (with_reducible refine (HR2.out w2 hb2).mono ?_); rintro e w3 ⟨rfl, hq2⟩; have hb3 := (hb2).trans (hq2.mono (hb2).size); obtain ⟨x0, x1, x2, x3⟩ := HS.out w3 hb3; obtain ⟨x4, x5, x6, x7⟩ := HS9.out w3 hb3))
        exact HGO.out w3 hb3 _ _ _ _ _ _ _ _ _ _ _ _ _ _ _ _ _ _ _ _ _ _ _ _ _ _ _ _ _ _ _ _ _ _ _ _ _ _ _ _ _ _ _ _ _ _ _ _ _ _ _ _ _ _ _ _ _ ‹∀ (a : Act) (w : World), Code.wp Try.prog _ _ a w → _›
      · obtain ⟨z, hz⟩ : ∃ z, r30 g = z := ⟨_, rfl⟩
        rw [hz] at HR2 h2
        have hn1 : (z == 0) = false := by simpa using h2
        have hn2 : (z != 0) = true := by simpa using h2
        clear hb hS hS9 hp hg hi hsm hlaw hfw sm1 sm2 h1 h2 hci hz
        unfold funsT2 Try.f4
        dsimp only
        go_wp2_with (first | (go_at_call 7; refine HF.out.mono ?_; rintro e w1 ⟨rfl, hb1⟩; obtain ⟨x0, x1, x2, x3⟩ := HS.out w1 hb1; obtain ⟨x4, x5, x6, x7⟩ := HS9.out w1 hb1) | (go_at_call 13; (with_reducible refine (HR1.out w1 hb1).mono ?_); rintro e w2 ⟨rfl, hq1⟩; have hb2 := (hb1).trans (hq1.mono (hb1).size); obtain ⟨x0, x1, x2, x3⟩ := HS.out w2 hb2; obtain ⟨x4, x5, x6, x7⟩ := HS9.out w2 hb2) | (go_at_call 13; (with_reducible refine (HR2.out w2 hb2).mono ?_); rintro e w3 ⟨rfl, hq2⟩; have hb3 := (hb2).trans (hq2.mono (hb2).size); obtain ⟨x0, x1, x2, x3⟩ := HS.out w3 hb3; obtain ⟨x4, x5, x6, x7⟩ := HS9.out w3 hb3) | (go_at_call 8; refine (knows_any _).mono ?_; rintro e w8 ⟨rfl, hb8⟩))
        go_ret
        have h1 := HB.out.trans (hb3.mono HB.out.size)
        exact ⟨rfl, h1.trans (hb8.mono h1.size)⟩
    · obtain ⟨z, hz⟩ : ∃ z, r30 p = z := ⟨_, rfl⟩
      rw [hz] at HR1 h1
      have hn1 : (z == 0) = false := by simpa using h1
      have hn2 : (z != 0) = true := by simpa using h1
      clear hb hS hS9 hp hg hi hsm hlaw hfw sm1 sm2 h1 hci hz
      unfold funsT2 Try.f4
      dsimp only
      go_wp2_with (first | (go_at_call 7; refine HF.out.mono ?_; rintro e w1 ⟨rfl, hb1⟩; obtain ⟨x0, x1, x2, x3⟩ := HS.out w1 hb1; obtain ⟨x4, x5, x6, x7⟩ := HS9.out w1 hb1) | (go_at_call 13; (with_reducible refine (HR1.out w1 hb1).mono ?_); rintro e w2 ⟨rfl, hq1⟩; have hb2 := (hb1).trans (hq1.mono (hb1).size); obtain ⟨x0, x1, x2, x3⟩ := HS.out w2 hb2; obtain ⟨x4, x5, x6, x7⟩ := HS9.out w2 hb2) | (go_at_call 8; refine (knows_any _).mono ?_; rintro e w8 ⟨rfl, hb8⟩))
      go_ret
      have h1 := HB.out.trans (hb2.mono HB.out.size)
      exact ⟨rfl, h1.trans (hb8.mono h1.size)⟩
set_option maxRecDepth 100000 in
set_option maxHeartbeats 16000000 in
theorem funs_walk {p : FlatP} {more : FFun} {v : Array Value} {e0 e1 e2 : Value} (W : World) (hin : FlatIn W.heap.size W p v) (hrg : (∀ g ∈ p.funs, rngA g.body) ∧ rngA p.main) (hnl : p.funs.length ≤ 1048576) (hmore : BodyIn W.heap.size W more.body #[e0, e1, e2]) (hrm : rngA more.body) (inp : List Int) (Ai : Option Addr) (ci : Nat) (hi : IntsIn W.heap.size W Ai inp) (hci : inp.length ≤ ci) (f : Int) :
    Calls Try.prog 4 #[.agg v, .slice Ai inp.length ci, .agg #[.int .i64 more.env, .int .i64 more.param, e0, e1, e2], .int .i64 f] W (BoolBelow true W) := by
  obtain ⟨Af, cf, b, o, m0, m1, m2, rfl, hcf, h56, hmain, hA, hfun⟩ := hin
  have hin : FlatIn W.heap.size W p #[.slice Af p.funs.length cf, m0, m1, m2] := ⟨Af, cf, b, o, m0, m1, m2, rfl, hcf, h56, hmain, hA, hfun⟩
  obtain ⟨news, hnr, hone, hrow⟩ := funs_news hA hfun
  have hmain0 := hmain
  obtain ⟨A1, d1, b1_, o1, hv, -⟩ := hmain.at_
  simp only [Array.mk.injEq, List.cons.injEq, and_true] at hv
  obtain ⟨rfl, rfl, rfl⟩ := hv
  have hmore0 := hmore
  obtain ⟨M0, mc, b2_, o2, hv, -⟩ := hmore.at_
  simp only [Array.mk.injEq, List.cons.injEq, and_true] at hv
  obtain ⟨rfl, rfl, rfl⟩ := hv
  obtain ⟨W0, hW0⟩ : ∃ W0, (W.alloc (.cells #[.slice Af p.funs.length cf, .slice A1 p.main.len d1, .bool p.main.last.v, .int .i64 p.main.last.n] 29)).alloc (.cells #[.int .i64 more.env, .int .i64 more.param, .slice M0 more.body.len mc, .bool more.body.last.v, .int .i64 more.body.last.n] 42) = W0 := ⟨_, rfl⟩
  have hs0 : W0.heap.size = W.heap.size + 2 := by rw [← hW0]; simp
  have hb0 : Below W.heap.size W W0 := by rw [← hW0]; exact below_two _ _ _
  have h4 : W0.heap[W.heap.size]? = some (.cells #[.slice Af p.funs.length cf, .slice A1 p.main.len d1, .bool p.main.last.v, .int .i64 p.main.last.n] 29 (0, 0)) := by rw [← hW0]; exact two_new1 _ _ _
  have h6 : W0.heap[W.heap.size + 1]? = some (.cells #[.int .i64 more.env, .int .i64 more.param, .slice M0 more.body.len mc, .bool more.body.last.v, .int .i64 more.body.last.n] 42 (0, 0)) := by rw [← hW0]; exact two_new2 _ _ _
  have hS : ∀ V2, Below W0.heap.size W0 V2 → V2.cell? ⟨W.heap.size, 0, none⟩ = some (.slice Af p.funs.length cf) ∧ V2.cell? ⟨W.heap.size, 1, none⟩ = some (.slice A1 p.main.len d1) ∧ V2.cell? ⟨W.heap.size, 2, none⟩ = some (.bool p.main.last.v) ∧ V2.cell? ⟨W.heap.size, 3, none⟩ = some (.int .i64 p.main.last.n) := fun V2 h => by
    have h' := (h.block _ (heap_lt h4)).trans h4
    exact ⟨by simp [World.cell?, h'], by simp [World.cell?, h'], by simp [World.cell?, h'], by simp [World.cell?, h']⟩
  have hS6 : ∀ V2, Below W0.heap.size W0 V2 → V2.cell? ⟨W.heap.size + 1, 0, none⟩ = some (.int .i64 more.env) ∧ V2.cell? ⟨W.heap.size + 1, 1, none⟩ = some (.int .i64 more.param) ∧ V2.cell? ⟨W.heap.size + 1, 2, none⟩ = some (.slice M0 more.body.len mc) ∧ V2.cell? ⟨W.heap.size + 1, 3, none⟩ = some (.bool more.body.last.v) ∧ V2.cell? ⟨W.heap.size + 1, 4, none⟩ = some (.int .i64 more.body.last.n) := fun V2 h => by
    have h' := (h.block _ (heap_lt h6)).trans h6
    exact ⟨by simp [World.cell?, h'], by simp [World.cell?, h'], by simp [World.cell?, h'], by simp [World.cell?, h'], by simp [World.cell?, h']⟩
  have hW : ∀ V2, Below W0.heap.size W0 V2 → Below W.heap.size W V2 := fun V2 h => hb0.trans (h.mono hb0.size)
  have HGO := Lib.hid (fun (y0 y2 y5 y7 y8 y9 y10 y11 y12 y13 y14 y15 y16 y17 y18 y19 y20 y21 y22 y23 y24 y25 y26 y27 y28 y29 y30 y31 y32 y33 y34 y35 y36 y37 y38 y39 y40 y41 y42 y43 y44 y45 y46 y47 y48 y49 y50 y51 y52 y53 y54 y55 y56 y57 y58 y59 : Value) =>
    (show ∀ K : Act → World → Prop, (∀ a w, funsT2.wp Try.prog (bodyPost Try.prog Try.f4 (BoolBelow true W)) a w → K a w) → funsR1.wp Try.prog (Exit.then K (bodyPost Try.prog Try.f4 (BoolBelow true W))) { tmps := #[y0, .slice Ai inp.length ci, y2, .int .i64 f, .pointer (some ⟨W.heap.size, 0, none⟩), y5, .pointer (some ⟨(W.heap.size + 1), 0, none⟩), y7, y8, y9, y10, y11, y12, y13, y14, y15, y16, y17, y18, y19, y20, y21, y22, y23, y24, y25, y26, y27, y28, y29, y30, y31, y32, y33, y34, y35, y36, y37, y38, y39, y40, y41, y42, y43, y44, y45, y46, y47, y48, y49, y50, y51, y52, y53, y54, y55, y56, y57, y58, y59], defers := [] } W0 from
      funs_build (news := news) hnr.1 (by omega) hS hS6 (fun V2 h => hrow V2 (hW V2 h)) hone (fun V2 X9 A9 c9 hv h9 hown k0 k2 k5 k6 k7 k8 k10 k11 k12 k13 k14 k15 k16 k17 k18 k19 k20 k21 k22 k23 k24 k25 k26 k27 k28 k29 k30 k31 k32 k33 k34 k35 k36 k37 k38 k39 k40 k41 k42 k43 k44 k45 k46 k47 k48 k49 k50 k51 k52 k53 k54 k55 k56 k57 k58 k59 => by
        have hWV := hW V2 hv
        have hnr2 : FunsRow V2.heap.size V2 (p.funs ++ [more]) (news ++ [.int .i64 more.env, .int .i64 more.param, .slice M0 more.body.len mc, .bool more.body.last.v, .int .i64 more.body.last.n]) := ((hnr.kept hWV).mono hWV.size).snoc (hmore0.later hWV)
        have hlen : (p.funs ++ [more]).length = p.funs.length + 1 := by simp
        obtain ⟨A', c', he, hfl⟩ := flat_of_row (main := p.main) (own_size_ hlen rfl hown) hnr2 (hmain0.later hWV) (by rw [hlen]; omega)
        rw [hlen] at he hfl
        simp only [Value.slice.injEq, true_and] at he
        obtain ⟨rfl, rfl⟩ := he
        have hrg2 : (∀ g ∈ (⟨p.funs ++ [more], p.main⟩ : FlatP).funs, rngA g.body) ∧ rngA p.main := ⟨fun g hg => by
          rcases List.mem_append.1 hg with hg | hg
          · exact hrg.1 g hg
          · rw [List.mem_singleton] at hg; subst hg; exact hrm, hrg.2⟩
        refine funs_tail2 (p := p) (g := ⟨p.funs ++ [more], p.main⟩) (inp := inp) hWV rfl (fun V3 h3 => hS V3 (hv.trans (h3.mono hv.size))) (fun V3 h3 => by
          have h' := (h3.block X9 (heap_lt h9)).trans h9
          exact ⟨by simp [World.cell?, h'], by simp [World.cell?, h'], by simp [World.cell?, h'], by simp [World.cell?, h']⟩) (hin.later hWV) hfl ((hi.below hWV).mono hWV.size) hci (fun hf => ?_) (fun _ h1 h2 => funs_law p more inp (min f 1500) h1 h2) _ _ _ _ _ _ _ _ _ _ _ _ _ _ _ _ _ _ _ _ _ _ _ _ _ _ _ _ _ _ _ _ _ _ _ _ _ _ _ _ _ _ _ _ _ _ _ _ _ _ _ _ _ _ _ _
        have hsg := few_small hf hrg2
        refine ⟨⟨?_, hrg.1, hrg.2⟩, hsg⟩
        have := hsg.size
        have h2 := szFuns_app p.funs more
        simp only at this
        omega) _ _ _ _ _ _ _ _ _ _ _ _ _ _ _ _ _ _ _ _ _ _ _ _ _ _ _ _ _ _ _ _ _ _ _ _ _ _ _ _ _ _ _ _ _ _ _ _ _ _ _ _ _ _ _ _))
  have HN := Lib.hid (rfl : (0 : Nat) = 0)
  clear hin hmain hmain0 hmore hmore0 hA hfun hnr hrow hone hS hS6 hW hb0 h4 h6 hi hci hrg hrm HN h56 hcf
  generalize p.main.len = ml at *
  generalize p.main.last.v = mv at *
  generalize p.main.last.n = mn at *
  generalize more.body.len = ol at *
  generalize more.body.last.v = ov at *
  generalize more.body.last.n = on_ at *
  go_enter Try.func4, Try.ntmps4
  go_wp2_with fail
  exact HGO.out _ _ _ _ _ _ _ _ _ _ _ _ _ _ _ _ _ _ _ _ _ _ _ _ _ _ _ _ _ _ _ _ _ _ _ _ _ _ _ _ _ _ _ _ _ _ _ _ _ _ _ _ _ _ _ _ _ ‹∀ (a : Act) (w : World), Code.wp Try.prog _ _ a w → _›
end Go.Proofs.Ytnobggabjpcbfaa
