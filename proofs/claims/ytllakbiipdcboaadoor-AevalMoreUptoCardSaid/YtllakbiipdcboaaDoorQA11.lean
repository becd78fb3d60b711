/-
  3 texts of this seat in one: PR3 PR4 PA3b.
-/
import Derived.Test.YtllakbiipdcboaaDoorQA4
import Derived.Test.YtllakbiipdcboaaDoorQA9
/-
  anf.all: its walker, by induction on the term's size; the iterator.
-/
set_option linter.unusedVariables false
set_option linter.unusedSimpArgs false
namespace Go.Proofs.YtllakbiipdcboaaDoor
open Go.RowKit Go.Shelf

attribute [local go_sem] Oper.semAt_some

section
variable {B : Nat} {w0 : World} {n₀ N l : Nat} {X : Nat → Prop} {J Jx : List (PartX B w0) → World → Prop} {yb wb : Nat}
/-- how the blocks of a bind are gone through -/
def KidsPost (pl : List (Int × Part)) (w0' : World) (n₀ N l : Nat) (X : Nat → Prop) (J Jx : List (PartX B w0) → World → Prop) (yb wb : Nat) (pre : List (PartX B w0)) (V : World) (e : Ending) (V' : World) : Prop :=
  (e = .returned (.bool false) ∧ ∃ q : List (PartX B w0), projX q = pl ∧ WalkAt w0 n₀ N l X J yb wb (pre ++ q) V' ∧ KpX X V V') ∨ (e = .returned (.bool true) ∧ ∃ q : List (PartX B w0), projX q <+: pl ∧ Jx (pre ++ q) V')
theorem kids_any (hX : ∀ k, X k → B ≤ k ∧ k < n₀) (hyb : n₀ ≤ yb) (hwb : n₀ ≤ wb) (hJ : AbidesFrom n₀ J) {bl : List Anf} {Al : Option Addr} {cl : Nat} (hbl : BlocksIn B w0 Al bl)
    (ih : ∀ i (h : i < bl.length) (v : Array Value), BodyIn B w0 bl[i] v → WalkOk w0 n₀ N l X J Jx yb wb bl[i] v) (d : Int) (hd0 : 0 ≤ d) (hd : d + 1 + hgtLA bl ≤ 60000) (db : Nat) (hdx : ¬ X db) (pre : List (PartX B w0)) (V : World) (hV : WalkAt w0 n₀ N l X J yb wb pre V)
    (hN : pre.length + (partsLD (d + 1) bl).length ≤ N) (hdb : V.cell? ⟨db, 0, none⟩ = some (.int .i64 d)) :
    Calls Tryd.prog 32 #[.slice Al bl.length cl, .func (.func 33) #[] #[.pointer (some ⟨wb, 0, none⟩), .pointer (some ⟨db, 0, none⟩)]] V (KidsPost (partsLD (d + 1) bl) w0 n₀ N l X J Jx yb wb pre V) := by
  obtain ⟨b, o, G0, G1, G2, hK⟩ := hbl.blk
  have h8 := hK.h8
  refine (containsFunc_any 33 #[.pointer (some ⟨wb, 0, none⟩), .pointer (some ⟨db, 0, none⟩)] enters_kid Al bl.length cl b o G0 G1 G2
    (fun i V' => ∃ q : List (PartX B w0), projX q = partsLD (d + 1) (bl.take i) ∧ WalkAt w0 n₀ N l X J yb wb (pre ++ q) V' ∧ KpX X V V' ∧ V'.cell? ⟨db, 0, none⟩ = some (.int .i64 d))
    (fun V' => ∃ q : List (PartX B w0), projX q <+: partsLD (d + 1) bl ∧ Jx (pre ++ q) V')
    (by omega) (fun h => (hK.hA h).1)
    (fun i V' ⟨q, _, hV', _, _⟩ hi => ⟨hV'.stay _ _ _ (hK.hA (by omega)).2 (hK.c0 i hi), hV'.stay _ _ _ (hK.hA (by omega)).2 (hK.c1 i hi), hV'.stay _ _ _ (hK.hA (by omega)).2 (hK.c2 i hi)⟩)
    (fun i V' ⟨q, hq, hV', hkV, edV⟩ hi => by
      have hg := hgtLA_get hi
      have hql := congrArg List.length hq
      rw [projX_length] at hql
      have htk := partsLD_take (d + 1) hi
      have hle := (partsLD_take_le (d + 1) bl (i + 1)).length_le
      rw [htk, List.length_append] at hle
      refine (kid_any hJ bl[i] _ _ _ (ih i hi _ (hK.hsub i hi)) d hd0 (by omega) db _ V' hV' (by simp; omega) edV).mono ?_
      rintro e V2 (⟨rfl, r, hr, hJr, hkr⟩ | ⟨rfl, r, hr, hJr⟩)
      · refine .inl ⟨rfl, q ++ r, by rw [projX_append, hq, hr, htk], ?_, hkV.trans hkr, hkr.cell edV hdx⟩
        exact hV'.step hX hyb hwb hkr (by rw [← List.append_assoc]; exact hJr)
      · refine .inr ⟨rfl, q ++ r, ?_, by rw [← List.append_assoc]; exact hJr⟩
        rw [projX_append, hq]
        refine List.IsPrefix.trans ?_ (partsLD_take_le (d + 1) bl (i + 1))
        rw [htk]
        exact (List.prefix_append_right_inj _).2 hr)
    V ⟨[], by simp [projX, partsLD], by rw [List.append_nil]; exact hV, KpX.refl _ _, hdb⟩).mono ?_
  rintro e V' (⟨rfl, q, hq, hV', hk, _⟩ | ⟨rfl, q, hq, hj⟩)
  · rw [List.take_of_length_le (Nat.le_refl _)] at hq
    exact .inl ⟨rfl, q, hq, hV', hk⟩
  · exact .inr ⟨rfl, q, hq, hj⟩

theorem parts_step {t : Anf} {j : Nat} {x k nn : Int} {ats : List Atm} {ks : List Int} {bl : List Anf} (h : t.tail j = .bind x k nn ats ks bl (t.tail (j + 1))) (d : Int) : partsD d (t.tail j) = (d, .bind x k nn ats ks bl.length) :: (partsLD (d + 1) bl ++ partsD d (t.tail (j + 1))) := by
  rw [h, partsD]
set_option maxRecDepth 100000 in
set_option maxHeartbeats 4000000 in
/-- **'walk = func(a, depth) bool { .. }'**: by induction on the term's size. -/
theorem walk_ok (hB : B ≤ n₀) (hX : ∀ k, X k → B ≤ k ∧ k < n₀) (hyb : n₀ ≤ yb) (hwb : n₀ ≤ wb) (hJ : AbidesFrom n₀ J)
    (hY : ∀ m pre (x : PartX B w0) W, J pre W → pre.length < N → YieldAt Fence.wide m Tryd.prog l #[.int .i64 x.d, .agg x.v] W fun e W' => (e = .returned (.bool true) ∧ J (pre ++ [x]) W' ∧ KpX X W W') ∨ (e = .returned (.bool false) ∧ Jx (pre ++ [x]) W')) :
    ∀ (m : Nat) (t : Anf) (v : Array Value), SizeOf.sizeOf t < m → BodyIn B w0 t v → WalkOk w0 n₀ N l X J Jx yb wb t v := by
  intro m
  induction m with
  | zero => intro t v h; omega
  | succ m ih =>
    intro t v hsz hin d pre W hd0 hd hW hN
    obtain ⟨A, c, b, o, rfl, hc, h96, hA, hBD⟩ := hin.at_
    obtain ⟨W2, hW2⟩ : ∃ W2, (W.alloc (.cells #[.slice A t.len c, .bool t.last.v, .int .i64 t.last.n] 26)).alloc (.cells #[.int .i64 d] 3) = W2 := ⟨_, rfl⟩
    have hWA : WalkAt w0 n₀ N l X J yb wb pre W2 := by rw [← hW2]; exact (hW.alloc hJ _).alloc hJ _
    have hk2 : KpX X W W2 := by rw [← hW2]; exact (KpX.alloc X W _).trans (KpX.alloc X _ _)
    have e0 : W2.cell? ⟨W.heap.size, 0, none⟩ = some (.slice A t.len c) := by rw [← hW2, World.cell?_alloc_past _ _ _ (by simp), World.cell?_alloc_at _ _ _ _ rfl]; rfl
    have e1 : W2.cell? ⟨W.heap.size, 1, none⟩ = some (.bool t.last.v) := by rw [← hW2, World.cell?_alloc_past _ _ _ (by simp), World.cell?_alloc_at _ _ _ _ rfl]; rfl
    have e2 : W2.cell? ⟨W.heap.size, 2, none⟩ = some (.int .i64 t.last.n) := by rw [← hW2, World.cell?_alloc_past _ _ _ (by simp), World.cell?_alloc_at _ _ _ _ rfl]; rfl
    have ed : W2.cell? ⟨W.heap.size + 1, 0, none⟩ = some (.int .i64 d) := by rw [← hW2, World.cell?_alloc_at _ _ _ _ (by simp)]; rfl
    have hws := hW.size
    have hnx : ¬ X W.heap.size := fun hx => by have := (hX _ hx).2; omega
    have hnx1 : ¬ X (W.heap.size + 1) := fun hx => by have := (hX _ hx).2; omega
    have HFR := Lib.hid (fun (V : World) (hV : KpX X W2 V) => (show V.cell? ⟨W.heap.size, 0, none⟩ = some (.slice A t.len c) ∧ V.cell? ⟨W.heap.size, 1, none⟩ = some (.bool t.last.v) ∧ V.cell? ⟨W.heap.size, 2, none⟩ = some (.int .i64 t.last.n) ∧ V.cell? ⟨W.heap.size + 1, 0, none⟩ = some (.int .i64 d) from
      ⟨hV.cell e0 hnx, hV.cell e1 hnx, hV.cell e2 hnx, hV.cell ed hnx1⟩))
    -- a round: what is told, and what stands behind it
    have HRD := Lib.hid (fun (j : Nat) (hj : j < t.len) (q : List (PartX B w0)) (V : World) (hq : projX q ++ partsD d (t.tail j) = partsD d t) (hV : WalkAt w0 n₀ N l X J yb wb (pre ++ q) V) (hkV : KpX X W2 V) =>
      (show ∃ x k nn ats ks nb Aa ca Ak ck Al cl, A = some ⟨b, o, none⟩ ∧ V.cell? ⟨b, o + j * 6, none⟩ = some (.int .i64 x) ∧ V.cell? ⟨b, o + j * 6 + 1, none⟩ = some (.int .i64 k) ∧ V.cell? ⟨b, o + j * 6 + 2, none⟩ = some (.int .i64 nn) ∧ V.cell? ⟨b, o + j * 6 + 3, none⟩ = some (.slice Aa (List.length (α := Atm) ats) ca) ∧ V.cell? ⟨b, o + j * 6 + 4, none⟩ = some (.slice Ak (List.length (α := Int) ks) ck) ∧ V.cell? ⟨b, o + j * 6 + 5, none⟩ = some (.slice Al nb cl) ∧
        ∀ V2, V.alloc (.cells #[.int .i64 x, .int .i64 k, .int .i64 nn, .slice Aa ats.length ca, .slice Ak ks.length ck, .slice Al nb cl] 45) = V2 →
          YieldAt Fence.wide (1 - 1) Tryd.prog l #[.int .i64 d, .agg #[.int .i64 x, .int .i64 k, .int .i64 nn, .slice Aa ats.length ca, .slice Ak ks.length ck, .slice Al nb cl, .bool false, .int .i64 0, .bool false]] V2 fun e V3 =>
            (e = .returned (.bool true) ∧ V3.cell? ⟨V.heap.size, 5, none⟩ = some (.slice Al nb cl) ∧ Hid (Calls Tryd.prog 32 #[.slice Al nb cl, .func (.func 33) #[] #[.pointer (some ⟨wb, 0, none⟩), .pointer (some ⟨W.heap.size + 1, 0, none⟩)]] V3 fun e V4 =>
              (e = .returned (.bool false) ∧ Hid (∃ q' : List (PartX B w0), projX q' ++ partsD d (t.tail (j + 1)) = partsD d t ∧ WalkAt w0 n₀ N l X J yb wb (pre ++ q') V4 ∧ KpX X W2 V4)) ∨ (e = .returned (.bool true) ∧ Hid (∃ q' : List (PartX B w0), projX q' <+: partsD d t ∧ Jx (pre ++ q') V4)))) ∨
            (e = .returned (.bool false) ∧ Hid (∃ q' : List (PartX B w0), projX q' <+: partsD d t ∧ Jx (pre ++ q') V3)) from by
        obtain ⟨x, k, nn, ats, ks, bl, Aa, ca, Ak, ck, Al, cl, htail, hbi⟩ := hBD j hj
        refine ⟨x, k, nn, ats, ks, bl.length, Aa, ca, Ak, ck, Al, cl, hA (by omega), hV.stay _ _ _ hbi.lt hbi.c0, hV.stay _ _ _ hbi.lt hbi.c1, hV.stay _ _ _ hbi.lt hbi.c2, hV.stay _ _ _ hbi.lt hbi.c3, hV.stay _ _ _ hbi.lt hbi.c4, hV.stay _ _ _ hbi.lt hbi.c5, fun V2 hV2 => ?_⟩
        have hps := parts_step htail d
        have hpl := congrArg List.length hq
        rw [hps, List.length_append, projX_length, List.length_cons, List.length_append] at hpl
        have hgb := hgt_block htail
        obtain ⟨p, hp⟩ : ∃ p : PartX B w0, p = ⟨d, .bind x k nn ats ks bl.length, _, .bind (Al := Al) hbi.ha hbi.hac hbi.hk hbi.hkc hbi.hl8 hbi.hlc, ⟨hd0, by omega⟩⟩ := ⟨_, rfl⟩
        have hpd : p.d = d := by rw [hp]
        have hpv : p.v = #[.int .i64 x, .int .i64 k, .int .i64 nn, .slice Aa ats.length ca, .slice Ak ks.length ck, .slice Al bl.length cl, .bool false, .int .i64 0, .bool false] := by rw [hp]
        have hpq : projX [p] = [(d, .bind x k nn ats ks bl.length)] := by rw [hp]; rfl
        have hV2A : WalkAt w0 n₀ N l X J yb wb (pre ++ q) V2 := by rw [← hV2]; exact hV.alloc hJ _
        have hkk : KpX X V V2 := by rw [← hV2]; exact KpX.alloc X V _
        have c5 : V2.cell? ⟨V.heap.size, 5, none⟩ = some (.slice Al bl.length cl) := by rw [← hV2, World.cell?_alloc_at _ _ _ _ rfl]; rfl
        have hnv : ¬ X V.heap.size := fun hx => by have := (hX _ hx).2; have := hV.size; omega
        have hy := hY (1 - 1) (pre ++ q) p V2 hV2A.inv (by simp; omega)
        rw [hpd, hpv] at hy
        refine hy.mono fun e V3 h => ?_
        rcases h with ⟨rfl, hj3, hk3⟩ | ⟨rfl, hj3⟩
        · refine .inl ⟨rfl, hk3.cell c5 hnv, Lib.hid ?_⟩
          have hW3 : WalkAt w0 n₀ N l X J yb wb (pre ++ q ++ [p]) V3 := hV2A.step hX hyb hwb hk3 hj3
          have hk23 : KpX X W2 V3 := hkV.trans (hkk.trans hk3)
          refine (kids_any hX hyb hwb hJ hbi.blocks (fun i hi v hv => ih _ _ (by have := size_block htail (List.getElem_mem hi); omega) hv) d hd0 (by omega) (W.heap.size + 1) hnx1 (pre ++ q ++ [p]) V3 hW3 (by simp; omega) (hk23.cell ed hnx1)).mono ?_
          rintro e V4 (⟨rfl, r, hr, hW4, hk4⟩ | ⟨rfl, r, hr, hj4⟩)
          · refine .inl ⟨rfl, Lib.hid ⟨q ++ [p] ++ r, ?_, by simpa [List.append_assoc] using hW4, hk23.trans hk4⟩⟩
            rw [projX_append, projX_append, hpq, hr, ← hq, hps]
            simp [List.append_assoc]
          · refine .inr ⟨rfl, Lib.hid ⟨q ++ [p] ++ r, ?_, by simpa [List.append_assoc] using hj4⟩⟩
            rw [projX_append, projX_append, hpq, ← hq, hps]
            obtain ⟨z, hz⟩ := hr
            exact ⟨z ++ partsD d (t.tail (j + 1)), by rw [← hz]; simp [List.append_assoc]⟩
        · refine .inr ⟨rfl, Lib.hid ⟨q ++ [p], ?_, by simpa [List.append_assoc] using hj3⟩⟩
          rw [projX_append, hpq, ← hq, hps]
          exact ⟨partsLD (d + 1) bl ++ partsD d (t.tail (j + 1)), by simp [List.append_assoc]⟩))
    -- what is answered
    have HRT := Lib.hid (fun (q : List (PartX B w0)) (V : World) (hq : projX q ++ partsD d (t.tail t.len) = partsD d t) (hV : WalkAt w0 n₀ N l X J yb wb (pre ++ q) V) (hkV : KpX X W2 V) =>
      (show YieldAt Fence.wide (1 - 1) Tryd.prog l #[.int .i64 d, .agg #[.int .i64 0, .int .i64 0, .int .i64 0, .slice none 0 0, .slice none 0 0, .slice none 0 0, .bool t.last.v, .int .i64 t.last.n, .bool true]] V fun e V3 => ∃ b : Bool, e = .returned (.bool b) ∧ WalkPost true false (partsD d t) X J Jx pre W e V3 from by
        have hl : t.tail t.len = .ret t.last := t.tail_ret t.len (Nat.le_refl _)
        rw [hl, partsD] at hq
        have hpl := congrArg List.length hq
        rw [List.length_append, projX_length] at hpl
        simp only [List.length_cons, List.length_nil] at hpl
        obtain ⟨p, hp⟩ : ∃ p : PartX B w0, p = ⟨d, .ret t.last, _, .ret t.last, ⟨hd0, by omega⟩⟩ := ⟨_, rfl⟩
        have hpd : p.d = d := by rw [hp]
        have hpv : p.v = #[.int .i64 0, .int .i64 0, .int .i64 0, .slice none 0 0, .slice none 0 0, .slice none 0 0, .bool t.last.v, .int .i64 t.last.n, .bool true] := by rw [hp]
        have hpq : projX (q ++ [p]) = partsD d t := by rw [projX_append, ← hq, hp]; rfl
        have hy := hY (1 - 1) (pre ++ q) p V hV.inv (by simp; omega)
        rw [hpd, hpv] at hy
        refine hy.mono fun e V3 h => ?_
        rcases h with ⟨rfl, hj3, hk3⟩ | ⟨rfl, hj3⟩
        · exact ⟨true, rfl, .inl ⟨rfl, q ++ [p], hpq, by simpa [List.append_assoc] using hj3, hk2.trans (hkV.trans hk3)⟩⟩
        · exact ⟨false, rfl, .inr ⟨rfl, q ++ [p], by rw [hpq]; exact List.prefix_refl _, by simpa [List.append_assoc] using hj3⟩⟩))
    have HYC := Lib.hid (fun (V : World) (q : List (PartX B w0)) (hV : WalkAt w0 n₀ N l X J yb wb (pre ++ q) V) => hV.yc)
    have HST := Lib.hid (show WalkAt w0 n₀ N l X J yb wb (pre ++ []) W2 from by rw [List.append_nil]; exact hWA)
    obtain ⟨PD, hPD⟩ : ∃ PD, partsD d t = PD := ⟨_, rfl⟩
    rw [hPD] at HRD HRT ⊢
    have HT0 := Lib.hid (show projX ([] : List (PartX B w0)) ++ partsD d (t.tail 0) = PD from by rw [Anf.tail_zero, hPD]; rfl)
    clear hPD ih hY hBD hin hA hWA hk2 hW hN hsz hd ed e1 e2
    obtain ⟨T, hT⟩ : ∃ T, t.len = T := ⟨_, rfl⟩
    rw [hT] at hc h96 hW2 e0 HFR HRD HRT ⊢
    clear hT
    refine (callsIn_wide (n := 1)).1 ?_
    refine callsIn_of_wp Tryd.func31 rfl trivial ?_ rfl
    simp only [Tryd.ntmps31, List.size_toArray, List.length_cons, List.length_nil, Nat.reduceAdd, Nat.reduceSub, Array.replicate_succ, Array.replicate_zero, List.push_toArray, List.append_toArray, List.nil_append, List.cons_append]
    gi_wp2_with fail
    gi_loopw [12] (fun iv wr => ∃ (j : Nat) (q : List (PartX B w0)), j ≤ T ∧ iv = .int .i64 (j : Int) ∧ Hid (projX q ++ partsD d (t.tail j) = PD) ∧ Hid (WalkAt w0 n₀ N l X J yb wb (pre ++ q) wr) ∧ Hid (KpX X W2 wr)) (fun iv _ => T + 1 - (intOf iv).toNat)
    case atStart => exact ⟨0, [], by omega, rfl, HT0, HST, Lib.hid (KpX.refl _ _)⟩
    case round =>
      obtain ⟨j, q, hj, rfl, HQ, HV, HK⟩ := hrel
      have hyc := HYC.out wr q HV.out
      obtain ⟨f0, f1, f2, fd⟩ := HFR.out wr HK.out
      by_cases hlt : j < T
      · obtain ⟨x, k, nn, ats, ks, nb, Aa, ca, Ak, ck, Al, cl, rfl, c0, c1, c2, c3, c4, c5, hyy⟩ := HRD.out j hlt q wr HQ.out HV.out HK.out
        have e1 : (0 : Int) ≤ (j : Int) := by omega
        have e2 : (j : Int) < (T : Int) := by omega
        have e4 : IntKind.i64.wrap ((j : Int) + 1) = (j : Int) + 1 := by rw [IntKind.wrap_i64]; omega
        have e5 : (T : Int) ≤ (c : Int) := by omega
        obtain ⟨V2, hV2⟩ : ∃ V2, wr.alloc (.cells #[.int .i64 x, .int .i64 k, .int .i64 nn, .slice Aa ats.length ca, .slice Ak ks.length ck, .slice Al nb cl] 45) = V2 := ⟨_, rfl⟩
        obtain ⟨fn, tmps, assign, body, hy, hR⟩ := hyy V2 hV2
        have HR := Lib.hid hR
        have hkk := KpX.alloc (fun _ => False) wr (.cells #[.int .i64 x, .int .i64 k, .int .i64 nn, .slice Aa ats.length ca, .slice Ak ks.length ck, .slice Al nb cl] 45)
        rw [hV2] at hkk
        have y2 := hkk.cell hyc id
        have fd2 := hkk.cell fd id
        have g0 : V2.cell? ⟨wr.heap.size, 0, none⟩ = some (.int .i64 x) := by rw [← hV2, World.cell?_alloc_at _ _ _ _ rfl]; rfl
        have g1 : V2.cell? ⟨wr.heap.size, 1, none⟩ = some (.int .i64 k) := by rw [← hV2, World.cell?_alloc_at _ _ _ _ rfl]; rfl
        have g2 : V2.cell? ⟨wr.heap.size, 2, none⟩ = some (.int .i64 nn) := by rw [← hV2, World.cell?_alloc_at _ _ _ _ rfl]; rfl
        have g3 : V2.cell? ⟨wr.heap.size, 3, none⟩ = some (.slice Aa ats.length ca) := by rw [← hV2, World.cell?_alloc_at _ _ _ _ rfl]; rfl
        have g4 : V2.cell? ⟨wr.heap.size, 4, none⟩ = some (.slice Ak ks.length ck) := by rw [← hV2, World.cell?_alloc_at _ _ _ _ rfl]; rfl
        have g5 : V2.cell? ⟨wr.heap.size, 5, none⟩ = some (.slice Al nb cl) := by rw [← hV2, World.cell?_alloc_at _ _ _ _ rfl]; rfl
        clear hyy hR hkk
        gi_wp2_with fail
        refine HR.out.mono ?_
        rintro e V3 (⟨rfl, g53, HC⟩ | ⟨rfl, HP⟩)
        · gi_wp2_with (refine ⟨trivial, ?_⟩; gi_at_call 32; refine (callsIn_wide.2 HC.out).mono ?_; rintro e W4 (⟨rfl, HN⟩ | ⟨rfl, HP⟩))
          · obtain ⟨q', hq', hV', hk'⟩ := HN.out
            have HQ' := Lib.hid hq'
            have HV' := Lib.hid hV'
            have HK' := Lib.hid hk'
            clear hq' hV' hk'
            go_roundw
            case rel => exact ⟨j + 1, q', by omega, by go_num, HQ', HV', HK'⟩
            case measure => simp [intOf]; omega
          · go_ret
            exact .inr ⟨rfl, HP.out⟩
        · gi_wp2_with fail
          refine ⟨trivial, ?_⟩
          gi_wp2_with fail
          go_ret
          exact .inr ⟨rfl, HP.out⟩
      · have hjT : j = T := by omega
        subst hjT
        have hjj : ¬ (j : Int) < (j : Int) := by omega
        obtain ⟨fn, tmps, assign, body, hy, hR⟩ := HRT.out q wr HQ.out HV.out HK.out
        have HR := Lib.hid hR
        clear hR
        gi_wp2_with fail
        refine HR.out.mono ?_
        rintro e V3 ⟨bb, rfl, hP⟩
        gi_wp2_with fail
        go_ret
        exact hP
end
end Go.Proofs.YtllakbiipdcboaaDoor

/-
  anf.all: the iterator's contract.
-/
set_option linter.unusedVariables false
set_option linter.unusedSimpArgs false
namespace Go.Proofs.YtllakbiipdcboaaDoor
open Go.RowKit Go.Shelf

attribute [local go_sem] Oper.semAt_some

theorem enters_all1 : ∀ args w, (callFunc 30 args).run Tryd.prog w = .ok (.enter 30 args) w := enters_of Tryd.func30 (by kernel_rfl) rfl

set_option maxRecDepth 100000 in
set_option maxHeartbeats 1000000 in
/-- **'anf.all(c)' hands back a value that gives the term's nodes in order.** -/
theorem all_stops {B : Nat} {w0 : World} {t : Anf} {v : Array Value} (hin : BodyIn B w0 t v) (hh : 1 + (t.hgt : Int) ≤ 60000) (X : Nat → Prop) (cb : Nat) (w : World) (hX : ∀ k, X k → B ≤ k ∧ k < w.heap.size) (hB : B ≤ w.heap.size) (hstay : Stay B w0 w)
    {c0 c1 c2 : Value} (hv : v = #[c0, c1, c2]) (hcb : ¬ X cb) (e0 : w.cell? ⟨cb, 0, none⟩ = some c0) (e1 : w.cell? ⟨cb, 1, none⟩ = some c1) (e2 : w.cell? ⟨cb, 2, none⟩ = some c2) (n : Nat) :
    SeqStopsK Fence.wide n Tryd.prog 30 #[.pointer (some ⟨cb, 0, none⟩)] (fun x : PartX B w0 => #[.int .i64 x.d, .agg x.v]) (KpX X) (fun xs => projX xs = partsD 1 t) (fun pre => projX pre <+: partsD 1 t) (partsD 1 t).length w := by
  intro l J Jx W hW hJ hJx hY h0
  subst hv
  have hcbl : cb < w.heap.size := World.block_lt_of_cell? _ _ e0
  have f0 := (hW.cell (p := ⟨_, _, none⟩) hcbl).trans e0
  have f1 := (hW.cell (p := ⟨_, _, none⟩) hcbl).trans e1
  have f2 := (hW.cell (p := ⟨_, _, none⟩) hcbl).trans e2
  have hws := hW.size
  obtain ⟨W1, hW1⟩ : ∃ W1, W.alloc (.cells #[.func (.yield l) #[] #[]] 79) = W1 := ⟨_, rfl⟩
  obtain ⟨W2, hW2⟩ : ∃ W2, W1.alloc (.cells #[.func (.func 31) #[] #[.pointer (some ⟨W.heap.size, 0, none⟩), .pointer (some ⟨W.heap.size + 1, 0, none⟩)]] 80) = W2 := ⟨_, rfl⟩
  have hs1 : W1.heap.size = W.heap.size + 1 := by rw [← hW1]; simp
  have hk2 : KpX X W W2 := by rw [← hW2, ← hW1]; exact (KpX.alloc X _ _).trans (KpX.alloc X _ _)
  have hJ2 : J [] W2 := by rw [← hW2, ← hW1]; exact hJ _ _ _ none (hJ _ _ _ none h0 (World.grownBy_alloc _ _ none) (fun r e => by cases e)) (World.grownBy_alloc _ _ none) (fun r e => by cases e)
  have hyc : W2.cell? ⟨W.heap.size, 0, none⟩ = some (.func (.yield l) #[] #[]) := by rw [← hW2, World.cell?_alloc_past _ _ _ (by rw [hs1]; simp), ← hW1, World.cell?_alloc_at _ _ _ _ rfl]; rfl
  have hwc : W2.cell? ⟨W.heap.size + 1, 0, none⟩ = some (.func (.func 31) #[] #[.pointer (some ⟨W.heap.size, 0, none⟩), .pointer (some ⟨W.heap.size + 1, 0, none⟩)]) := by rw [← hW2, World.cell?_alloc_at _ _ _ _ hs1.symm]; rfl
  have g0 := hk2.cell f0 hcb
  have g1 := hk2.cell f1 hcb
  have g2 := hk2.cell f2 hcb
  have hwalk : WalkOk w0 W.heap.size (partsD 1 t).length l X J Jx W.heap.size (W.heap.size + 1) t #[c0, c1, c2] :=
    walk_ok (by omega) (fun k hx => ⟨(hX k hx).1, by have := (hX k hx).2; omega⟩) (Nat.le_refl _) (by omega) hJ
      (fun m pre x V hj hl => by
        obtain ⟨fn, tmps, assign, body, hy, hR⟩ := hY pre x V hj hl
        exact ⟨fn, tmps, assign, body, hy, hR.1, fun c cs _ => hR.2 c cs (room_wide _)⟩) _ t _ (Nat.lt_succ_self _) hin
  have HC := Lib.hid (hwalk 1 [] W2 (by omega) hh ⟨hstay.trans ((Stay.of_below (below_of hW hB)).trans (Stay.step (Stay.refl B W) hk2 (fun k hx => (hX k hx).1))), by rw [← hW2]; simp; omega, hyc, hwc, hJ2⟩ (by simp))
  have hset : (W1.alloc (.cells #[.nilFunc] 80)).setCell ⟨W.heap.size + 1, 0, none⟩ (.func (.func 31) #[] #[.pointer (some ⟨W.heap.size, 0, none⟩), .pointer (some ⟨W.heap.size + 1, 0, none⟩)]) = W2 := by
    rw [← hW2]; exact World.setCell_alloc_at _ _ _ _ _ hs1.symm
  have HS := Lib.hid hset
  clear hset hwalk hY hJ hJx hin hJ2
  refine callsIn_wide.2 ?_
  show Calls Tryd.prog 30 #[.func (.yield l) #[] #[], .pointer (some ⟨cb, 0, none⟩)] W _
  go_enter Tryd.func30, Tryd.ntmps30
  go_wp2_with fail
  refine HC.out.mono ?_
  rintro e w' (⟨rfl, q, hq, hJq, _⟩ | ⟨rfl, q, hq, hJq⟩)
  · go_wp2_with fail
    go_end0
    exact ⟨⟨_, rfl⟩, .inl ⟨q, hq, by simpa using hJq⟩⟩
  · go_wp2_with fail
    go_end0
    exact ⟨⟨_, rfl⟩, .inr ⟨q, hq, by simpa using hJq⟩⟩

/-- 'anf.all(c)' -/
theorem all_any (v : Array Value) {c0 c1 c2 : Value} (hv : v = #[c0, c1, c2]) (w : World) :
    Calls Tryd.prog 21 #[.agg v] w fun e w' => e = .returned (.func (.func 30) #[] #[.pointer (some ⟨w.heap.size, 0, none⟩)]) ∧ w' = w.alloc (.cells #[c0, c1, c2] 26) := by
  subst hv
  go_enter Tryd.func21, Tryd.ntmps21
  go_wp2_with fail
  go_ret
  exact ⟨rfl, rfl⟩

end Go.Proofs.YtllakbiipdcboaaDoor

/-
  anf: counts, the other kinds; functions.
-/
set_option linter.unusedVariables false
set_option linter.unusedSimpArgs false
namespace Go.Proofs.YtllakbiipdcboaaDoor
open Go.RowKit

section
variable (n : Int) (Aa Ak Al : Option Addr) (na ca nk ck nb cb : Nat) (w : World)
set_option maxRecDepth 100000 in
set_option maxHeartbeats 2000000 in
theorem counts_2_two9 (ht : ShapesIn w.heap.size w) (hl : nk * 8 ≤ 140737488351232) (hl2 : na * 8 ≤ 140737488351232 ∧ nb * 8 ≤ 140737488351232) (h9 : n ≤ 9): Calls Tryd.prog 37 #[.agg #[.int .i64 2, .int .i64 n, .slice Aa na ca, .slice Ak nk ck, .slice Al nb cb]] w fun e w' => e = .returned (.bool (countB 2 n na nk nb)) ∧ Below w.heap.size w w' := by
  obtain ⟨W0, hW0⟩ : ∃ W0, w.alloc (.cells #[.int .i64 2, .int .i64 n, .slice Aa na ca, .slice Ak nk ck, .slice Al nb cb] 43) = W0 := ⟨_, rfl⟩
  have hb0 : Below w.heap.size w W0 := by rw [← hW0]; exact (Below.refl _ _).alloc (Nat.le_refl _) _
  have hR : RhsAt w W0 w.heap.size 2 n Aa Ak Al na ca nk ck nb cb := by rw [← hW0]; exact RhsAt.new _ _ _ _ _ _ _ _ _ _ _ _
  obtain ⟨sv, hsv⟩ := ht.w0 2 (by decide)
  have s0 : W0.cell? ⟨0, 6, none⟩ = some (.string sv) := (hb0.cell (p := ⟨_, _, none⟩) ht.lt).trans hsv
  have s1 : W0.cell? ⟨0, 7, none⟩ = some (.int .i64 (-1)) := (hb0.cell (p := ⟨_, _, none⟩) ht.lt).trans (ht.w1 2 (by decide))
  have s2 : W0.cell? ⟨0, 8, none⟩ = some (.int .i64 0) := (hb0.cell (p := ⟨_, _, none⟩) ht.lt).trans (ht.w2 2 (by decide))
  have hb1 : Below W0.heap.size W0 (W0.alloc (.cells #[.string sv, .int .i64 (-1), .int .i64 0] 105)) := (Below.refl _ _).alloc (Nat.le_refl _) _
  obtain ⟨c0, c1, c2, c3, c4, cl⟩ := hR.behind hb1
  have k0 := hR.c0
  have q1 : (W0.alloc (.cells #[.string sv, .int .i64 (-1), .int .i64 0] 105)).cell? ⟨W0.heap.size, 1, none⟩ = some (.int .i64 (-1)) := by rw [World.cell?_alloc_at _ _ _ _ rfl]; rfl
  have q2 : (W0.alloc (.cells #[.string sv, .int .i64 (-1), .int .i64 0] 105)).cell? ⟨W0.heap.size, 2, none⟩ = some (.int .i64 0) := by rw [World.cell?_alloc_at _ _ _ _ rfl]; rfl
  have HB := Lib.hid (hb0.trans (hb1.mono hb0.size))
  have hw1 : IntKind.i64.wrap ((nk : Int) + 1) = (nk : Int) + 1 := by rw [IntKind.wrap_i64]; omega
  have hw2 : IntKind.i64.wrap (2 * (nb : Int)) = 2 * (nb : Int) := by rw [IntKind.wrap_i64]; omega
  obtain ⟨out, hout⟩ : ∃ o, countB 2 n na nk nb = o := ⟨_, rfl⟩
  rw [hout]
  have HO := Lib.hid hout
  have H2 := Lib.hid (show twoF n = true from by simp [twoF, h9])
  clear hout ht hsv hR hb0 hb1 hl hl2
  cases ha : ((na : Int) == 2)
  · have HV := Lib.hid (show out = false from HO.out.symm.trans (by have h1 := ha; have hvv := H2.out; simp at h1; rw [Bool.eq_false_iff]; intro h; simp [countB, hvv] at h; omega))
    go_enter Tryd.func37, Tryd.ntmps37
    go_wp2_with fail
    go_quiet (fail)
    go_wp2_with fail
    go_ret
    exact ⟨ret_bool (HV.out.symm), below_drewN HB.out _⟩
  · cases hb : ((nb : Int) == 0)
    · have HV := Lib.hid (show out = false from HO.out.symm.trans (by have h1 := ha; have h2 := hb; have hvv := H2.out; simp at h1 h2; rw [Bool.eq_false_iff]; intro h; simp [countB, hvv] at h; omega))
      go_enter Tryd.func37, Tryd.ntmps37
      go_wp2_with fail
      go_quiet (fail)
      go_wp2_with fail
      go_ret
      exact ⟨ret_bool (HV.out.symm), below_drewN HB.out _⟩
    · have HV := Lib.hid (show ((nk : Int) == 0) = out from HO.out.symm ▸ (by have h1 := ha; have h2 := hb; have hvv := H2.out; simp at h1 h2; rw [Bool.eq_iff_iff]; simp [countB, hvv]; omega))
      go_enter Tryd.func37, Tryd.ntmps37
      go_wp2_with fail
      go_quiet (fail)
      go_wp2_with fail
      go_ret
      exact ⟨ret_bool (HV.out), below_drewN HB.out _⟩
set_option maxRecDepth 100000 in
set_option maxHeartbeats 2000000 in
theorem counts_2_two12 (ht : ShapesIn w.heap.size w) (hl : nk * 8 ≤ 140737488351232) (hl2 : na * 8 ≤ 140737488351232 ∧ nb * 8 ≤ 140737488351232) (h9 : ¬ n ≤ 9) (h12 : (n == 12) = true): Calls Tryd.prog 37 #[.agg #[.int .i64 2, .int .i64 n, .slice Aa na ca, .slice Ak nk ck, .slice Al nb cb]] w fun e w' => e = .returned (.bool (countB 2 n na nk nb)) ∧ Below w.heap.size w w' := by
  obtain ⟨W0, hW0⟩ : ∃ W0, w.alloc (.cells #[.int .i64 2, .int .i64 n, .slice Aa na ca, .slice Ak nk ck, .slice Al nb cb] 43) = W0 := ⟨_, rfl⟩
  have hb0 : Below w.heap.size w W0 := by rw [← hW0]; exact (Below.refl _ _).alloc (Nat.le_refl _) _
  have hR : RhsAt w W0 w.heap.size 2 n Aa Ak Al na ca nk ck nb cb := by rw [← hW0]; exact RhsAt.new _ _ _ _ _ _ _ _ _ _ _ _
  obtain ⟨sv, hsv⟩ := ht.w0 2 (by decide)
  have s0 : W0.cell? ⟨0, 6, none⟩ = some (.string sv) := (hb0.cell (p := ⟨_, _, none⟩) ht.lt).trans hsv
  have s1 : W0.cell? ⟨0, 7, none⟩ = some (.int .i64 (-1)) := (hb0.cell (p := ⟨_, _, none⟩) ht.lt).trans (ht.w1 2 (by decide))
  have s2 : W0.cell? ⟨0, 8, none⟩ = some (.int .i64 0) := (hb0.cell (p := ⟨_, _, none⟩) ht.lt).trans (ht.w2 2 (by decide))
  have hb1 : Below W0.heap.size W0 (W0.alloc (.cells #[.string sv, .int .i64 (-1), .int .i64 0] 105)) := (Below.refl _ _).alloc (Nat.le_refl _) _
  obtain ⟨c0, c1, c2, c3, c4, cl⟩ := hR.behind hb1
  have k0 := hR.c0
  have q1 : (W0.alloc (.cells #[.string sv, .int .i64 (-1), .int .i64 0] 105)).cell? ⟨W0.heap.size, 1, none⟩ = some (.int .i64 (-1)) := by rw [World.cell?_alloc_at _ _ _ _ rfl]; rfl
  have q2 : (W0.alloc (.cells #[.string sv, .int .i64 (-1), .int .i64 0] 105)).cell? ⟨W0.heap.size, 2, none⟩ = some (.int .i64 0) := by rw [World.cell?_alloc_at _ _ _ _ rfl]; rfl
  have HB := Lib.hid (hb0.trans (hb1.mono hb0.size))
  have hw1 : IntKind.i64.wrap ((nk : Int) + 1) = (nk : Int) + 1 := by rw [IntKind.wrap_i64]; omega
  have hw2 : IntKind.i64.wrap (2 * (nb : Int)) = 2 * (nb : Int) := by rw [IntKind.wrap_i64]; omega
  obtain ⟨out, hout⟩ : ∃ o, countB 2 n na nk nb = o := ⟨_, rfl⟩
  rw [hout]
  have HO := Lib.hid hout
  have H2 := Lib.hid (show twoF n = true from by have h := h12; simp at h; simp [twoF, h])
  clear hout ht hsv hR hb0 hb1 hl hl2
  cases ha : ((na : Int) == 2)
  · have HV := Lib.hid (show out = false from HO.out.symm.trans (by have h1 := ha; have hvv := H2.out; simp at h1; rw [Bool.eq_false_iff]; intro h; simp [countB, hvv] at h; omega))
    go_enter Tryd.func37, Tryd.ntmps37
    go_wp2_with fail
    go_quiet (fail)
    go_wp2_with fail
    go_ret
    exact ⟨ret_bool (HV.out.symm), below_drewN HB.out _⟩
  · cases hb : ((nb : Int) == 0)
    · have HV := Lib.hid (show out = false from HO.out.symm.trans (by have h1 := ha; have h2 := hb; have hvv := H2.out; simp at h1 h2; rw [Bool.eq_false_iff]; intro h; simp [countB, hvv] at h; omega))
      go_enter Tryd.func37, Tryd.ntmps37
      go_wp2_with fail
      go_quiet (fail)
      go_wp2_with fail
      go_ret
      exact ⟨ret_bool (HV.out.symm), below_drewN HB.out _⟩
    · have HV := Lib.hid (show ((nk : Int) == 0) = out from HO.out.symm ▸ (by have h1 := ha; have h2 := hb; have hvv := H2.out; simp at h1 h2; rw [Bool.eq_iff_iff]; simp [countB, hvv]; omega))
      go_enter Tryd.func37, Tryd.ntmps37
      go_wp2_with fail
      go_quiet (fail)
      go_wp2_with fail
      go_ret
      exact ⟨ret_bool (HV.out), below_drewN HB.out _⟩
set_option maxRecDepth 100000 in
set_option maxHeartbeats 2000000 in
theorem counts_2_two16 (ht : ShapesIn w.heap.size w) (hl : nk * 8 ≤ 140737488351232) (hl2 : na * 8 ≤ 140737488351232 ∧ nb * 8 ≤ 140737488351232) (h9 : ¬ n ≤ 9) (h12 : (n == 12) = false) (h16 : (n == 16) = true): Calls Tryd.prog 37 #[.agg #[.int .i64 2, .int .i64 n, .slice Aa na ca, .slice Ak nk ck, .slice Al nb cb]] w fun e w' => e = .returned (.bool (countB 2 n na nk nb)) ∧ Below w.heap.size w w' := by
  obtain ⟨W0, hW0⟩ : ∃ W0, w.alloc (.cells #[.int .i64 2, .int .i64 n, .slice Aa na ca, .slice Ak nk ck, .slice Al nb cb] 43) = W0 := ⟨_, rfl⟩
  have hb0 : Below w.heap.size w W0 := by rw [← hW0]; exact (Below.refl _ _).alloc (Nat.le_refl _) _
  have hR : RhsAt w W0 w.heap.size 2 n Aa Ak Al na ca nk ck nb cb := by rw [← hW0]; exact RhsAt.new _ _ _ _ _ _ _ _ _ _ _ _
  obtain ⟨sv, hsv⟩ := ht.w0 2 (by decide)
  have s0 : W0.cell? ⟨0, 6, none⟩ = some (.string sv) := (hb0.cell (p := ⟨_, _, none⟩) ht.lt).trans hsv
  have s1 : W0.cell? ⟨0, 7, none⟩ = some (.int .i64 (-1)) := (hb0.cell (p := ⟨_, _, none⟩) ht.lt).trans (ht.w1 2 (by decide))
  have s2 : W0.cell? ⟨0, 8, none⟩ = some (.int .i64 0) := (hb0.cell (p := ⟨_, _, none⟩) ht.lt).trans (ht.w2 2 (by decide))
  have hb1 : Below W0.heap.size W0 (W0.alloc (.cells #[.string sv, .int .i64 (-1), .int .i64 0] 105)) := (Below.refl _ _).alloc (Nat.le_refl _) _
  obtain ⟨c0, c1, c2, c3, c4, cl⟩ := hR.behind hb1
  have k0 := hR.c0
  have q1 : (W0.alloc (.cells #[.string sv, .int .i64 (-1), .int .i64 0] 105)).cell? ⟨W0.heap.size, 1, none⟩ = some (.int .i64 (-1)) := by rw [World.cell?_alloc_at _ _ _ _ rfl]; rfl
  have q2 : (W0.alloc (.cells #[.string sv, .int .i64 (-1), .int .i64 0] 105)).cell? ⟨W0.heap.size, 2, none⟩ = some (.int .i64 0) := by rw [World.cell?_alloc_at _ _ _ _ rfl]; rfl
  have HB := Lib.hid (hb0.trans (hb1.mono hb0.size))
  have hw1 : IntKind.i64.wrap ((nk : Int) + 1) = (nk : Int) + 1 := by rw [IntKind.wrap_i64]; omega
  have hw2 : IntKind.i64.wrap (2 * (nb : Int)) = 2 * (nb : Int) := by rw [IntKind.wrap_i64]; omega
  obtain ⟨out, hout⟩ : ∃ o, countB 2 n na nk nb = o := ⟨_, rfl⟩
  rw [hout]
  have HO := Lib.hid hout
  have H2 := Lib.hid (show twoF n = true from by have h := h16; simp at h; simp [twoF, h])
  clear hout ht hsv hR hb0 hb1 hl hl2
  cases ha : ((na : Int) == 2)
  · have HV := Lib.hid (show out = false from HO.out.symm.trans (by have h1 := ha; have hvv := H2.out; simp at h1; rw [Bool.eq_false_iff]; intro h; simp [countB, hvv] at h; omega))
    go_enter Tryd.func37, Tryd.ntmps37
    go_wp2_with fail
    go_quiet (fail)
    go_wp2_with fail
    go_ret
    exact ⟨ret_bool (HV.out.symm), below_drewN HB.out _⟩
  · cases hb : ((nb : Int) == 0)
    · have HV := Lib.hid (show out = false from HO.out.symm.trans (by have h1 := ha; have h2 := hb; have hvv := H2.out; simp at h1 h2; rw [Bool.eq_false_iff]; intro h; simp [countB, hvv] at h; omega))
      go_enter Tryd.func37, Tryd.ntmps37
      go_wp2_with fail
      go_quiet (fail)
      go_wp2_with fail
      go_ret
      exact ⟨ret_bool (HV.out.symm), below_drewN HB.out _⟩
    · have HV := Lib.hid (show ((nk : Int) == 0) = out from HO.out.symm ▸ (by have h1 := ha; have h2 := hb; have hvv := H2.out; simp at h1 h2; rw [Bool.eq_iff_iff]; simp [countB, hvv]; omega))
      go_enter Tryd.func37, Tryd.ntmps37
      go_wp2_with fail
      go_quiet (fail)
      go_wp2_with fail
      go_ret
      exact ⟨ret_bool (HV.out), below_drewN HB.out _⟩
set_option maxRecDepth 100000 in
set_option maxHeartbeats 2000000 in
theorem counts_2_one (ht : ShapesIn w.heap.size w) (hl : nk * 8 ≤ 140737488351232) (hl2 : na * 8 ≤ 140737488351232 ∧ nb * 8 ≤ 140737488351232) (h9 : ¬ n ≤ 9) (h12 : (n == 12) = false) (h16 : (n == 16) = false): Calls Tryd.prog 37 #[.agg #[.int .i64 2, .int .i64 n, .slice Aa na ca, .slice Ak nk ck, .slice Al nb cb]] w fun e w' => e = .returned (.bool (countB 2 n na nk nb)) ∧ Below w.heap.size w w' := by
  obtain ⟨W0, hW0⟩ : ∃ W0, w.alloc (.cells #[.int .i64 2, .int .i64 n, .slice Aa na ca, .slice Ak nk ck, .slice Al nb cb] 43) = W0 := ⟨_, rfl⟩
  have hb0 : Below w.heap.size w W0 := by rw [← hW0]; exact (Below.refl _ _).alloc (Nat.le_refl _) _
  have hR : RhsAt w W0 w.heap.size 2 n Aa Ak Al na ca nk ck nb cb := by rw [← hW0]; exact RhsAt.new _ _ _ _ _ _ _ _ _ _ _ _
  obtain ⟨sv, hsv⟩ := ht.w0 2 (by decide)
  have s0 : W0.cell? ⟨0, 6, none⟩ = some (.string sv) := (hb0.cell (p := ⟨_, _, none⟩) ht.lt).trans hsv
  have s1 : W0.cell? ⟨0, 7, none⟩ = some (.int .i64 (-1)) := (hb0.cell (p := ⟨_, _, none⟩) ht.lt).trans (ht.w1 2 (by decide))
  have s2 : W0.cell? ⟨0, 8, none⟩ = some (.int .i64 0) := (hb0.cell (p := ⟨_, _, none⟩) ht.lt).trans (ht.w2 2 (by decide))
  have hb1 : Below W0.heap.size W0 (W0.alloc (.cells #[.string sv, .int .i64 (-1), .int .i64 0] 105)) := (Below.refl _ _).alloc (Nat.le_refl _) _
  obtain ⟨c0, c1, c2, c3, c4, cl⟩ := hR.behind hb1
  have k0 := hR.c0
  have q1 : (W0.alloc (.cells #[.string sv, .int .i64 (-1), .int .i64 0] 105)).cell? ⟨W0.heap.size, 1, none⟩ = some (.int .i64 (-1)) := by rw [World.cell?_alloc_at _ _ _ _ rfl]; rfl
  have q2 : (W0.alloc (.cells #[.string sv, .int .i64 (-1), .int .i64 0] 105)).cell? ⟨W0.heap.size, 2, none⟩ = some (.int .i64 0) := by rw [World.cell?_alloc_at _ _ _ _ rfl]; rfl
  have HB := Lib.hid (hb0.trans (hb1.mono hb0.size))
  have hw1 : IntKind.i64.wrap ((nk : Int) + 1) = (nk : Int) + 1 := by rw [IntKind.wrap_i64]; omega
  have hw2 : IntKind.i64.wrap (2 * (nb : Int)) = 2 * (nb : Int) := by rw [IntKind.wrap_i64]; omega
  obtain ⟨out, hout⟩ : ∃ o, countB 2 n na nk nb = o := ⟨_, rfl⟩
  rw [hout]
  have HO := Lib.hid hout
  have H2 := Lib.hid (show twoF n = false from by have g := h12; have h := h16; simp at g h; simp [twoF, g, h]; omega)
  clear hout ht hsv hR hb0 hb1 hl hl2
  cases ha : ((na : Int) == 1)
  · have HV := Lib.hid (show out = false from HO.out.symm.trans (by have h1 := ha; have hvv := H2.out; simp at h1; rw [Bool.eq_false_iff]; intro h; simp [countB, hvv] at h; omega))
    go_enter Tryd.func37, Tryd.ntmps37
    go_wp2_with fail
    go_quiet (fail)
    go_wp2_with fail
    go_ret
    exact ⟨ret_bool (HV.out.symm), below_drewN HB.out _⟩
  · cases hb : ((nb : Int) == 0)
    · have HV := Lib.hid (show out = false from HO.out.symm.trans (by have h1 := ha; have h2 := hb; have hvv := H2.out; simp at h1 h2; rw [Bool.eq_false_iff]; intro h; simp [countB, hvv] at h; omega))
      go_enter Tryd.func37, Tryd.ntmps37
      go_wp2_with fail
      go_quiet (fail)
      go_wp2_with fail
      go_ret
      exact ⟨ret_bool (HV.out.symm), below_drewN HB.out _⟩
    · have HV := Lib.hid (show ((nk : Int) == 0) = out from HO.out.symm ▸ (by have h1 := ha; have h2 := hb; have hvv := H2.out; simp at h1 h2; rw [Bool.eq_iff_iff]; simp [countB, hvv]; omega))
      go_enter Tryd.func37, Tryd.ntmps37
      go_wp2_with fail
      go_quiet (fail)
      go_wp2_with fail
      go_ret
      exact ⟨ret_bool (HV.out), below_drewN HB.out _⟩
set_option maxRecDepth 100000 in
set_option maxHeartbeats 2000000 in
theorem counts_3 (ht : ShapesIn w.heap.size w) (hl : nk * 8 ≤ 140737488351232) (hl2 : na * 8 ≤ 140737488351232 ∧ nb * 8 ≤ 140737488351232) : Calls Tryd.prog 37 #[.agg #[.int .i64 3, .int .i64 n, .slice Aa na ca, .slice Ak nk ck, .slice Al nb cb]] w fun e w' => e = .returned (.bool (countB 3 n na nk nb)) ∧ Below w.heap.size w w' := by
  obtain ⟨W0, hW0⟩ : ∃ W0, w.alloc (.cells #[.int .i64 3, .int .i64 n, .slice Aa na ca, .slice Ak nk ck, .slice Al nb cb] 43) = W0 := ⟨_, rfl⟩
  have hb0 : Below w.heap.size w W0 := by rw [← hW0]; exact (Below.refl _ _).alloc (Nat.le_refl _) _
  have hR : RhsAt w W0 w.heap.size 3 n Aa Ak Al na ca nk ck nb cb := by rw [← hW0]; exact RhsAt.new _ _ _ _ _ _ _ _ _ _ _ _
  obtain ⟨sv, hsv⟩ := ht.w0 3 (by decide)
  have s0 : W0.cell? ⟨0, 9, none⟩ = some (.string sv) := (hb0.cell (p := ⟨_, _, none⟩) ht.lt).trans hsv
  have s1 : W0.cell? ⟨0, 10, none⟩ = some (.int .i64 (-1)) := (hb0.cell (p := ⟨_, _, none⟩) ht.lt).trans (ht.w1 3 (by decide))
  have s2 : W0.cell? ⟨0, 11, none⟩ = some (.int .i64 0) := (hb0.cell (p := ⟨_, _, none⟩) ht.lt).trans (ht.w2 3 (by decide))
  have hb1 : Below W0.heap.size W0 (W0.alloc (.cells #[.string sv, .int .i64 (-1), .int .i64 0] 105)) := (Below.refl _ _).alloc (Nat.le_refl _) _
  obtain ⟨c0, c1, c2, c3, c4, cl⟩ := hR.behind hb1
  have k0 := hR.c0
  have q1 : (W0.alloc (.cells #[.string sv, .int .i64 (-1), .int .i64 0] 105)).cell? ⟨W0.heap.size, 1, none⟩ = some (.int .i64 (-1)) := by rw [World.cell?_alloc_at _ _ _ _ rfl]; rfl
  have q2 : (W0.alloc (.cells #[.string sv, .int .i64 (-1), .int .i64 0] 105)).cell? ⟨W0.heap.size, 2, none⟩ = some (.int .i64 0) := by rw [World.cell?_alloc_at _ _ _ _ rfl]; rfl
  have HB := Lib.hid (hb0.trans (hb1.mono hb0.size))
  have hw1 : IntKind.i64.wrap ((nk : Int) + 1) = (nk : Int) + 1 := by rw [IntKind.wrap_i64]; omega
  have hw2 : IntKind.i64.wrap (2 * (nb : Int)) = 2 * (nb : Int) := by rw [IntKind.wrap_i64]; omega
  obtain ⟨out, hout⟩ : ∃ o, countB 3 n na nk nb = o := ⟨_, rfl⟩
  rw [hout]
  have HO := Lib.hid hout
  clear hout ht hsv hR hb0 hb1 hl hl2
  cases ha : inB na 1 8
  · have HV := Lib.hid (show out = false from HO.out.symm.trans (by simp [countB, ha]))
    go_enter Tryd.func37, Tryd.ntmps37
    go_wp2_with fail
    go_quiet (fail)
    go_wp2_with (go_at_call 46; refine (within_any _ _ _ _).mono ?_; rintro en w' ⟨rfl, rfl⟩)
    go_ret
    exact ⟨ret_bool (HV.out.symm), below_drewN HB.out _⟩
  · cases hb : ((nb : Int) == 0)
    · have HV := Lib.hid (show out = false from HO.out.symm.trans (by have h2 := hb; simp at h2; rw [Bool.eq_false_iff]; intro h; simp [countB] at h; omega))
      go_enter Tryd.func37, Tryd.ntmps37
      go_wp2_with fail
      go_quiet (fail)
      go_wp2_with (go_at_call 46; refine (within_any _ _ _ _).mono ?_; rintro en w' ⟨rfl, rfl⟩)
      go_ret
      exact ⟨ret_bool (HV.out.symm), below_drewN HB.out _⟩
    · have HV := Lib.hid (show ((nk : Int) == 0) = out from HO.out.symm ▸ (by have h2 := hb; simp at h2; rw [Bool.eq_iff_iff]; simp [countB, ha]; omega))
      go_enter Tryd.func37, Tryd.ntmps37
      go_wp2_with fail
      go_quiet (fail)
      go_wp2_with (go_at_call 46; refine (within_any _ _ _ _).mono ?_; rintro en w' ⟨rfl, rfl⟩)
      go_ret
      exact ⟨ret_bool (HV.out), below_drewN HB.out _⟩
set_option maxRecDepth 100000 in
set_option maxHeartbeats 2000000 in
theorem counts_7 (ht : ShapesIn w.heap.size w) (hl : nk * 8 ≤ 140737488351232) (hl2 : na * 8 ≤ 140737488351232 ∧ nb * 8 ≤ 140737488351232) : Calls Tryd.prog 37 #[.agg #[.int .i64 7, .int .i64 n, .slice Aa na ca, .slice Ak nk ck, .slice Al nb cb]] w fun e w' => e = .returned (.bool (countB 7 n na nk nb)) ∧ Below w.heap.size w w' := by
  obtain ⟨W0, hW0⟩ : ∃ W0, w.alloc (.cells #[.int .i64 7, .int .i64 n, .slice Aa na ca, .slice Ak nk ck, .slice Al nb cb] 43) = W0 := ⟨_, rfl⟩
  have hb0 : Below w.heap.size w W0 := by rw [← hW0]; exact (Below.refl _ _).alloc (Nat.le_refl _) _
  have hR : RhsAt w W0 w.heap.size 7 n Aa Ak Al na ca nk ck nb cb := by rw [← hW0]; exact RhsAt.new _ _ _ _ _ _ _ _ _ _ _ _
  obtain ⟨sv, hsv⟩ := ht.w0 7 (by decide)
  have s0 : W0.cell? ⟨0, 21, none⟩ = some (.string sv) := (hb0.cell (p := ⟨_, _, none⟩) ht.lt).trans hsv
  have s1 : W0.cell? ⟨0, 22, none⟩ = some (.int .i64 0) := (hb0.cell (p := ⟨_, _, none⟩) ht.lt).trans (ht.w1 7 (by decide))
  have s2 : W0.cell? ⟨0, 23, none⟩ = some (.int .i64 (-1)) := (hb0.cell (p := ⟨_, _, none⟩) ht.lt).trans (ht.w2 7 (by decide))
  have hb1 : Below W0.heap.size W0 (W0.alloc (.cells #[.string sv, .int .i64 0, .int .i64 (-1)] 105)) := (Below.refl _ _).alloc (Nat.le_refl _) _
  obtain ⟨c0, c1, c2, c3, c4, cl⟩ := hR.behind hb1
  have k0 := hR.c0
  have q1 : (W0.alloc (.cells #[.string sv, .int .i64 0, .int .i64 (-1)] 105)).cell? ⟨W0.heap.size, 1, none⟩ = some (.int .i64 0) := by rw [World.cell?_alloc_at _ _ _ _ rfl]; rfl
  have q2 : (W0.alloc (.cells #[.string sv, .int .i64 0, .int .i64 (-1)] 105)).cell? ⟨W0.heap.size, 2, none⟩ = some (.int .i64 (-1)) := by rw [World.cell?_alloc_at _ _ _ _ rfl]; rfl
  have HB := Lib.hid (hb0.trans (hb1.mono hb0.size))
  have hw1 : IntKind.i64.wrap ((nk : Int) + 1) = (nk : Int) + 1 := by rw [IntKind.wrap_i64]; omega
  have hw2 : IntKind.i64.wrap (2 * (nb : Int)) = 2 * (nb : Int) := by rw [IntKind.wrap_i64]; omega
  obtain ⟨out, hout⟩ : ∃ o, countB 7 n na nk nb = o := ⟨_, rfl⟩
  rw [hout]
  have HO := Lib.hid hout
  clear hout ht hsv hR hb0 hb1 hl hl2
  have hm : ((nk : Int).tmod 2 == 0) = decide (nk % 2 = 0) := by rw [show (nk : Int).tmod 2 = ((nk % 2 : Nat) : Int) from rfl, Bool.eq_iff_iff]; simp; omega
  have HM := Lib.hid hm
  clear hm
  by_cases hk2 : (2 : Int) ≤ (nk : Int)
  · cases ha : ((na : Int) == 0)
    · have HV := Lib.hid (show out = false from HO.out.symm.trans (by have h1 := ha;  simp at h1; rw [Bool.eq_false_iff]; intro h; simp [countB] at h; omega))
      go_enter Tryd.func37, Tryd.ntmps37
      go_wp2_with fail
      go_quiet (fail)
      go_wp2_with fail
      go_ret
      exact ⟨ret_bool (HV.out.symm), below_drewN HB.out _⟩
    · cases hb : (2 * (nb : Int) == (nk : Int))
      · have HV := Lib.hid (show out = false from HO.out.symm.trans (by have h1 := ha; have h2 := hb;  simp at h1 h2; rw [Bool.eq_false_iff]; intro h; simp [countB] at h; omega))
        go_enter Tryd.func37, Tryd.ntmps37
        go_wp2_with fail
        go_quiet (fail)
        go_wp2_with fail
        go_ret
        exact ⟨ret_bool (HV.out.symm), below_drewN HB.out _⟩
      · have HV := Lib.hid (show ((nk : Int).tmod 2 == 0) = out from HO.out.symm ▸ (by have h1 := ha; have h2 := hb;  simp at h1 h2; have hm := HM.out; rw [hm, Bool.eq_iff_iff]; simp [countB]; omega))
        go_enter Tryd.func37, Tryd.ntmps37
        go_wp2_with fail
        go_quiet (fail)
        go_wp2_with fail
        go_ret
        exact ⟨ret_bool (HV.out), below_drewN HB.out _⟩
  · cases ha : ((na : Int) == 0)
    · have HV := Lib.hid (show out = false from HO.out.symm.trans (by have h1 := ha;  simp at h1; rw [Bool.eq_false_iff]; intro h; simp [countB] at h; omega))
      go_enter Tryd.func37, Tryd.ntmps37
      go_wp2_with fail
      go_quiet (fail)
      go_wp2_with fail
      go_ret
      exact ⟨ret_bool (HV.out.symm), below_drewN HB.out _⟩
    · cases hb : (2 * (nb : Int) == (nk : Int))
      · have HV := Lib.hid (show out = false from HO.out.symm.trans (by have h1 := ha; have h2 := hb;  simp at h1 h2; rw [Bool.eq_false_iff]; intro h; simp [countB] at h; omega))
        go_enter Tryd.func37, Tryd.ntmps37
        go_wp2_with fail
        go_quiet (fail)
        go_wp2_with fail
        go_ret
        exact ⟨ret_bool (HV.out.symm), below_drewN HB.out _⟩
      · have HV := Lib.hid (show false = out from HO.out.symm ▸ (by have h1 := ha; have h2 := hb;  simp at h1 h2; rw [Bool.eq_iff_iff]; simp [countB]; omega))
        go_enter Tryd.func37, Tryd.ntmps37
        go_wp2_with fail
        go_quiet (fail)
        go_wp2_with fail
        go_ret
        exact ⟨ret_bool (HV.out), below_drewN HB.out _⟩
set_option maxRecDepth 100000 in
set_option maxHeartbeats 2000000 in
theorem counts_8 (ht : ShapesIn w.heap.size w) (hl : nk * 8 ≤ 140737488351232) (hl2 : na * 8 ≤ 140737488351232 ∧ nb * 8 ≤ 140737488351232) : Calls Tryd.prog 37 #[.agg #[.int .i64 8, .int .i64 n, .slice Aa na ca, .slice Ak nk ck, .slice Al nb cb]] w fun e w' => e = .returned (.bool (countB 8 n na nk nb)) ∧ Below w.heap.size w w' := by
  obtain ⟨W0, hW0⟩ : ∃ W0, w.alloc (.cells #[.int .i64 8, .int .i64 n, .slice Aa na ca, .slice Ak nk ck, .slice Al nb cb] 43) = W0 := ⟨_, rfl⟩
  have hb0 : Below w.heap.size w W0 := by rw [← hW0]; exact (Below.refl _ _).alloc (Nat.le_refl _) _
  have hR : RhsAt w W0 w.heap.size 8 n Aa Ak Al na ca nk ck nb cb := by rw [← hW0]; exact RhsAt.new _ _ _ _ _ _ _ _ _ _ _ _
  obtain ⟨sv, hsv⟩ := ht.w0 8 (by decide)
  have s0 : W0.cell? ⟨0, 24, none⟩ = some (.string sv) := (hb0.cell (p := ⟨_, _, none⟩) ht.lt).trans hsv
  have s1 : W0.cell? ⟨0, 25, none⟩ = some (.int .i64 1) := (hb0.cell (p := ⟨_, _, none⟩) ht.lt).trans (ht.w1 8 (by decide))
  have s2 : W0.cell? ⟨0, 26, none⟩ = some (.int .i64 (-1)) := (hb0.cell (p := ⟨_, _, none⟩) ht.lt).trans (ht.w2 8 (by decide))
  have hb1 : Below W0.heap.size W0 (W0.alloc (.cells #[.string sv, .int .i64 1, .int .i64 (-1)] 105)) := (Below.refl _ _).alloc (Nat.le_refl _) _
  obtain ⟨c0, c1, c2, c3, c4, cl⟩ := hR.behind hb1
  have k0 := hR.c0
  have q1 : (W0.alloc (.cells #[.string sv, .int .i64 1, .int .i64 (-1)] 105)).cell? ⟨W0.heap.size, 1, none⟩ = some (.int .i64 1) := by rw [World.cell?_alloc_at _ _ _ _ rfl]; rfl
  have q2 : (W0.alloc (.cells #[.string sv, .int .i64 1, .int .i64 (-1)] 105)).cell? ⟨W0.heap.size, 2, none⟩ = some (.int .i64 (-1)) := by rw [World.cell?_alloc_at _ _ _ _ rfl]; rfl
  have HB := Lib.hid (hb0.trans (hb1.mono hb0.size))
  have hw1 : IntKind.i64.wrap ((nk : Int) + 1) = (nk : Int) + 1 := by rw [IntKind.wrap_i64]; omega
  have hw2 : IntKind.i64.wrap (2 * (nb : Int)) = 2 * (nb : Int) := by rw [IntKind.wrap_i64]; omega
  obtain ⟨out, hout⟩ : ∃ o, countB 8 n na nk nb = o := ⟨_, rfl⟩
  rw [hout]
  have HO := Lib.hid hout
  clear hout ht hsv hR hb0 hb1 hl hl2
  cases ha : ((na : Int) == 1)
  · have HV := Lib.hid (show out = false from HO.out.symm.trans (by have h1 := ha;  simp at h1; rw [Bool.eq_false_iff]; intro h; simp [countB] at h; omega))
    go_enter Tryd.func37, Tryd.ntmps37
    go_wp2_with fail
    go_quiet (fail)
    go_wp2_with fail
    go_ret
    exact ⟨ret_bool (HV.out.symm), below_drewN HB.out _⟩
  · cases hb : ((nb : Int) == (nk : Int) + 1)
    · have HV := Lib.hid (show out = false from HO.out.symm.trans (by have h1 := ha; have h2 := hb;  simp at h1 h2; rw [Bool.eq_false_iff]; intro h; simp [countB] at h; omega))
      go_enter Tryd.func37, Tryd.ntmps37
      go_wp2_with fail
      go_quiet (fail)
      go_wp2_with fail
      go_ret
      exact ⟨ret_bool (HV.out.symm), below_drewN HB.out _⟩
    · have HV := Lib.hid (show true = out from HO.out.symm ▸ (by have h1 := ha; have h2 := hb;  simp at h1 h2; rw [Bool.eq_iff_iff]; simp [countB]; omega))
      go_enter Tryd.func37, Tryd.ntmps37
      go_wp2_with fail
      go_quiet (fail)
      go_wp2_with fail
      go_ret
      exact ⟨ret_bool (HV.out), below_drewN HB.out _⟩
theorem counts_any (k : Int) (hk1 : 1 ≤ k) (hk8 : k ≤ 8) (ht : ShapesIn w.heap.size w) (hl : nk * 8 ≤ 140737488351232) (hl2 : na * 8 ≤ 140737488351232 ∧ nb * 8 ≤ 140737488351232) : Calls Tryd.prog 37 #[.agg #[.int .i64 k, .int .i64 n, .slice Aa na ca, .slice Ak nk ck, .slice Al nb cb]] w fun e w' => e = .returned (.bool (countB k n na nk nb)) ∧ Below w.heap.size w w' := by
  have : k = 1 ∨ k = 2 ∨ k = 3 ∨ k = 4 ∨ k = 5 ∨ k = 6 ∨ k = 7 ∨ k = 8 := by omega
  rcases this with rfl | rfl | rfl | rfl | rfl | rfl | rfl | rfl
  · exact counts_1 n Aa Ak Al na ca nk ck nb cb w ht hl hl2
  · by_cases h9 : n ≤ 9
    · exact counts_2_two9 n Aa Ak Al na ca nk ck nb cb w ht hl hl2 h9
    · cases h12 : (n == 12)
      · cases h16 : (n == 16)
        · exact counts_2_one n Aa Ak Al na ca nk ck nb cb w ht hl hl2 h9 h12 h16
        · exact counts_2_two16 n Aa Ak Al na ca nk ck nb cb w ht hl hl2 h9 h12 h16
      · exact counts_2_two12 n Aa Ak Al na ca nk ck nb cb w ht hl hl2 h9 h12
  · exact counts_3 n Aa Ak Al na ca nk ck nb cb w ht hl hl2
  · exact counts_4 n Aa Ak Al na ca nk ck nb cb w ht hl hl2
  · exact counts_5 n Aa Ak Al na ca nk ck nb cb w ht hl hl2
  · exact counts_6 n Aa Ak Al na ca nk ck nb cb w ht hl hl2
  · exact counts_7 n Aa Ak Al na ca nk ck nb cb w ht hl hl2
  · exact counts_8 n Aa Ak Al na ca nk ck nb cb w ht hl hl2
end
end Go.Proofs.YtllakbiipdcboaaDoor
