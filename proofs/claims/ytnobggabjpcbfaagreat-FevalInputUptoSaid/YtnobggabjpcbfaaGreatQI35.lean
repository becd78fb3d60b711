/-
 2 texts of this seat in one: K11 K3.
-/
import Derived.Test.YtnobggabjpcbfaaGreatQI3
set_option maxRecDepth 100000
set_option maxHeartbeats 16000000
set_option linter.unusedVariables false
set_option linter.unusedSimpArgs false
namespace Go.Proofs.YtnobggabjpcbfaaGreat
open Go.RowKit
def fewN : List FFun → Int → Int
 | [], n => n
 | g :: gs, n => if n < 700 then fewN gs (n + (1 + nodesA g.body (700 - n) 1)) else n
def fewF (p : FlatP) (inp : List Int) : Bool := decide (fewN p.funs (nodesA p.main 700 1) < 700 ∧ inp.length ≤ 60)
theorem fewN_step {l : List FFun} {j : Nat} (hj : j < l.length) {n : Int} (hn : n < 700) : fewN (l.drop j) n = fewN (l.drop (j + 1)) (n + (1 + nodesA l[j].body (700 - n) 1)) := by
 rw [List.drop_eq_getElem_cons hj, fewN, if_pos hn]
theorem fewN_stop {l : List FFun} {n : Int} (hn : ¬ n < 700) : fewN l n = n := by
 cases l with
 | nil => rfl
 | cons c cs => rw [fewN, if_neg hn]
theorem BodyIn.bound {B : Nat} {w : World} {t : Anf} {v : Array Value} (h : BodyIn B w t v) (m n : Int) : nodesA t m n ≤ max n (m + 27000000000000) := by
 obtain ⟨_, _, _, _, -, -, -, -, h5⟩ := h
 exact nodesA_le h5 m n
theorem fewF_any {p : FlatP} {v : Array Value} (W : World) (hin : FlatIn W.heap.size W p v) (inp : List Int) (Ai : Option Addr) (ci : Nat) :
 Calls Tryz.prog 5 #[.agg v, .slice Ai inp.length ci] W fun e w' => e = .returned (.bool (fewF p inp)) ∧ Below W.heap.size W w' := by
 obtain ⟨Af, cf, b, o, m0, m1, m2, rfl, hcf, h56, hmain, hA, hfun⟩ := hin
 obtain ⟨A0, c0, b0, o0, hv, -⟩ := hmain.at_
 simp only [Array.mk.injEq, List.cons.injEq, and_true] at hv
 obtain ⟨rfl, rfl, rfl⟩ := hv
 generalize p.main.len = ml at *
 generalize p.main.last.v = lv at *
 generalize p.main.last.n = ln at *
 obtain ⟨W0, hW0⟩ : ∃ W0, W.alloc (.cells #[.slice Af p.funs.length cf, .slice A0 ml c0, .bool lv, .int .i64 ln] 29) = W0 := ⟨_, rfl⟩
 have hb0 : Below W.heap.size W W0 := by rw [← hW0]; exact (Below.refl _ _).alloc (Nat.le_refl _) _
 have hs0 : W.heap.size < W0.heap.size := by rw [← hW0]; simp
 have e0 : W0.cell? ⟨W.heap.size, 0, none⟩ = some (.slice Af p.funs.length cf) := by rw [← hW0, World.cell?_alloc_at _ _ _ _ rfl]; rfl
 have e1 : W0.cell? ⟨W.heap.size, 1, none⟩ = some (.slice A0 ml c0) := by rw [← hW0, World.cell?_alloc_at _ _ _ _ rfl]; rfl
 have e2 : W0.cell? ⟨W.heap.size, 2, none⟩ = some (.bool lv) := by rw [← hW0, World.cell?_alloc_at _ _ _ _ rfl]; rfl
 have e3 : W0.cell? ⟨W.heap.size, 3, none⟩ = some (.int .i64 ln) := by rw [← hW0, World.cell?_alloc_at _ _ _ _ rfl]; rfl
 have HM := Lib.hid (nodesA_any _ (Nat.lt_succ_self _) W0 ((hmain.kept hb0).mono hb0.size) 700 (by decide) (by decide))
 have hmb := hmain.bound 700 1
 have hmg := nodesA_ge p.main 700 1
 have HFN := Lib.hid (fun (j : Nat) (hj : j < p.funs.length) (V : World) (hV : Below W0.heap.size W0 V) =>
  (show ∃ B0 n0 d0 r0 r1, Af = some ⟨b, o, none⟩ ∧ V.cell? ⟨b, o + j * 5 + 2, none⟩ = some (.slice B0 n0 d0) ∧ V.cell? ⟨b, o + j * 5 + 3, none⟩ = some (.bool r0) ∧ V.cell? ⟨b, o + j * 5 + 4, none⟩ = some (.int .i64 r1) ∧
   ∀ m : Int, -1000 ≤ m → m ≤ 1000 → (1 ≤ nodesA p.funs[j].body m 1 ∧ nodesA p.funs[j].body m 1 ≤ max 1 (m + 27000000000000)) ∧ Calls Tryz.prog 14 #[.agg #[.slice B0 n0 d0, .bool r0, .int .i64 r1], .int .i64 m] V fun e w' => e = .returned (.int .i64 (nodesA p.funs[j].body m 1)) ∧ Below V.heap.size V w' from by
   have hV0 : Below W.heap.size W V := hb0.trans (hV.mono hb0.size)
   obtain ⟨g0, g1, g2, -, -, k2, k3, k4, hbd⟩ := hfun j hj
   obtain ⟨ha, hlt⟩ := hA (by omega)
   obtain ⟨B0, d0, b1, o1, hv, -⟩ := hbd.at_
   have hbl := hbd.bound
   simp only [Array.mk.injEq, List.cons.injEq, and_true] at hv
   obtain ⟨rfl, rfl, rfl⟩ := hv
   exact ⟨B0, _, d0, _, _, ha, (hV0.cell (p := ⟨_, _, none⟩) hlt).trans k2, (hV0.cell (p := ⟨_, _, none⟩) hlt).trans k3, (hV0.cell (p := ⟨_, _, none⟩) hlt).trans k4, fun m q1 q2 => ⟨⟨nodesA_ge _ _ _, hbl m 1⟩, nodesA_any _ (Nat.lt_succ_self _) V ((hbd.kept hV0).mono hV0.size) m q1 q2⟩⟩))
 have HB0 := Lib.hid hb0
 have HS0 := Lib.hid hs0
 obtain ⟨fl, hfl⟩ : ∃ fl, p.funs.length = fl := ⟨_, rfl⟩
 have HFL := Lib.hid hfl
 rw [hfl] at e0 h56 hW0 ⊢
 obtain ⟨FIN, hFIN⟩ : ∃ z, fewF p inp = z := ⟨_, rfl⟩
 have HF := Lib.hid hFIN
 rw [hFIN]
 unfold fewF at hFIN
 have HF2 := Lib.hid hFIN
 clear hmain hfun hA hb0 hs0 hfl hFIN hcf
 generalize inp.length = il at *
 obtain ⟨mn, hmn⟩ : ∃ mn, nodesA p.main 700 1 = mn := ⟨_, rfl⟩
 rw [hmn] at HM HF2 hmb hmg
 clear hmn
 have hfl8 : fl ≤ 3000000000000 := by omega
 go_enter Tryz.func5, Tryz.ntmps5
 go_wp2_with (go_at_call 14; refine HM.out.mono ?_; rintro e w1 ⟨rfl, hb1⟩)
 go_loopw [5, 6] (fun n i wr => ∃ (j : Nat) (m : Int), j ≤ fl ∧ i = .int .i64 (j : Int) ∧ n = .int .i64 m ∧ Hid (Below W0.heap.size W0 wr) ∧ 1 ≤ m ∧ m ≤ 27000000000701 ∧ Hid (fewN p.funs mn = fewN (p.funs.drop j) m)) (fun _ i _ => fl + 1 - (intOf i).toNat)
 case atStart => exact ⟨0, mn, by omega, rfl, rfl, Lib.hid hb1, by omega, by omega, Lib.hid (by simp)⟩
 case round =>
  obtain ⟨j, m, hj, rfl, rfl, hbel, hm3, hm4, heq⟩ := hrel
  have q0 := (hbel.out.cell (p := ⟨W.heap.size, 0, none⟩) HS0.out).trans e0
  by_cases hgo : j < fl ∧ m < 700
  · obtain ⟨hlt, hm7⟩ := hgo
    have hj0 : (0 : Int) ≤ (j : Int) := by omega
    have hjl : (j : Int) < (fl : Int) := by omega
    have hjb : j < p.funs.length := by rw [HFL.out]; exact hlt
    obtain ⟨B0, n0, d0, r0, r1, rfl, y0, y1, y2, hC⟩ := HFN.out j hjb wr hbel.out
    obtain ⟨⟨hk1, hk2⟩, hC1⟩ := hC (700 - m) (by omega) (by omega)
    have HC := Lib.hid hC1
    have HE := Lib.hid (heq.out.trans (fewN_step hjb hm7))
    clear hC hC1 heq
    generalize nodesA p.funs[j].body (700 - m) 1 = nk at *
    have z1 : IntKind.i64.wrap (700 - m) = 700 - m := by rw [IntKind.wrap_i64]; omega
    have z2 : IntKind.i64.wrap (1 + nk) = 1 + nk := by rw [IntKind.wrap_i64]; omega
    have z4 : IntKind.i64.wrap (m + (1 + nk)) = m + (1 + nk) := by rw [IntKind.wrap_i64]; omega
    have z3 : IntKind.i64.wrap ((j : Int) + 1) = (j : Int) + 1 := by rw [IntKind.wrap_i64]; omega
    go_wp2_with (go_at_call 14; refine HC.out.mono ?_; rintro e w' ⟨rfl, hb2⟩)
    go_roundw
    case rel => exact ⟨j + 1, m + (1 + nk), by omega, by go_num, by first | rfl | go_num, Lib.hid (hbel.out.trans (hb2.mono hbel.out.size)), by omega, by omega, HE.out⟩
    case measure => simp [intOf]; omega
  · have HE := Lib.hid (show fewN p.funs mn = m from heq.out.trans (by
     by_cases h7 : m < 700
     · have hd : p.funs.drop j = [] := List.drop_eq_nil_iff.2 (by rw [HFL.out]; omega)
       rw [hd]; rfl
     · exact fewN_stop h7))
    clear heq
    have HR := Lib.hid (show FIN = decide (m < 700 ∧ il ≤ 60) from by rw [← HF2.out, HE.out])
    by_cases hlt : j < fl
    · have h7 : ¬ m < 700 := fun h => hgo ⟨hlt, h⟩
      have hjl : (j : Int) < (fl : Int) := by omega
      clear hgo
      go_wp2_with fail
      go_ret
      exact ⟨ret_bool (by rw [HR.out]; exact (decide_eq_false (fun h => by have := h.1; omega)).symm), HB0.out.trans (hbel.out.mono (Nat.le_of_lt HS0.out))⟩
    · have hjl : ¬ (j : Int) < (fl : Int) := by omega
      clear hgo
      by_cases h7 : m < 700
      · by_cases h6 : il ≤ 60
        · have h6' : (il : Int) ≤ 60 := by omega
          go_wp2_with fail
          go_ret
          exact ⟨ret_bool (by rw [HR.out]; simp [h7, h6]), HB0.out.trans (hbel.out.mono (Nat.le_of_lt HS0.out))⟩
        · have h6' : ¬ (il : Int) ≤ 60 := by omega
          go_wp2_with fail
          go_ret
          exact ⟨ret_bool (by rw [HR.out]; simp [h7, h6]), HB0.out.trans (hbel.out.mono (Nat.le_of_lt HS0.out))⟩
      · go_wp2_with fail
        go_ret
        exact ⟨ret_bool (by rw [HR.out]; exact (decide_eq_false (fun h => by have := h.1; omega)).symm), HB0.out.trans (hbel.out.mono (Nat.le_of_lt HS0.out))⟩
end Go.Proofs.YtnobggabjpcbfaaGreat
namespace Go.Proofs.YtnobggabjpcbfaaGreat
def AsksF (n : Nat) (o o' : FOut) : Prop := o.2.asked ≤ n → o' = o
theorem AsksF.rfl' {n : Nat} (o : FOut) : AsksF n o o := fun _ => rfl
theorem AsksF.andThen {n m : Nat} {o o' : FOut} {f f' : PV → FSt → FOut} (h : AsksF n o o') (hf : ∀ v s, AsksF n (f v s) (f' v s)) (hg : ∀ v s, LeF s (f v s).2 m) : AsksF n (FOut.andThen o f) (FOut.andThen o' f') := by
 intro hn
 have h1 := (andThenF_le (l := 0) (LeF.refl o.2 0) hg).asked
 have h2 := h (Nat.le_trans h1 hn)
 subst h2
 obtain ⟨r, s⟩ := o'
 cases r with
 | val v => exact hf v s hn
 | raised v => rfl
 | stuck => rfl
 | cut => rfl
section
variable {funs : List FFun} {inp inp' : List Int} {n : Nat} {rec rec' : Anf → PEnv → FSt → FOut} (hle : ∀ t e s, LeF s (rec t e s).2) (hrel : ∀ t e s, AsksF n (rec t e s) (rec' t e s)) (h1 : n ≤ inp.length) (h2 : n ≤ inp'.length) (h3 : ∀ j, j < n → nth inp' j = nth inp j)
include hrel
theorem callF_asks (f a : PV) (s : FSt) : AsksF n (callF funs rec f a s) (callF funs rec' f a s) := by
 unfold callF
 cases f with
 | fn i =>
  simp only []
  by_cases h0 : s.left = 0
  · rw [if_pos h0, if_pos h0]; exact AsksF.rfl' _
  · rw [if_neg h0, if_neg h0]
    cases s.made[i]? with
    | none => exact AsksF.rfl' _
    | some c =>
     simp only []
     cases funs[c.1.toNat]? with
     | none => exact AsksF.rfl' _
     | some g => exact hrel _ _ _
 | int m => exact AsksF.rfl' _
 | blk t l => exact AsksF.rfl' _
 | ref i => exact AsksF.rfl' _
include hle h1 h2 h3
theorem primF_asks (p : Int) (l : List PV) (s : FSt) : AsksF n (primF funs inp rec p l s) (primF funs inp' rec' p l s) := by
 unfold primF
 simp only []
 split
 · exact AsksF.rfl' _
 split
 · exact AsksF.rfl' _
 split
 · exact AsksF.rfl' _
 split
 · exact AsksF.rfl' _
 split
 · intro hs
   unfold readF at hs ⊢
   have hn : s.asked + 1 ≤ n := by
    by_cases hc : s.asked < inp.length
    · rw [if_pos hc] at hs; exact hs
    · rw [if_neg hc] at hs; exact hs
   rw [if_pos (by omega), if_pos (by omega), h3 _ (by omega)]
 split
 · exact AsksF.rfl' _
 split
 · intro hs
   have h := callF_asks (funs := funs) hrel (l[0]?.getD default) (.int 0) s
   have hg := fun v s1 => callF_le (funs := funs) hle (l[1]?.getD default) v s1
   have hr := fun v s1 => callF_asks (funs := funs) hrel (l[1]?.getD default) v s1
   generalize callF funs rec (l[0]?.getD default) (.int 0) s = o at *
   generalize callF funs rec' (l[0]?.getD default) (.int 0) s = o' at *
   obtain ⟨r, s1⟩ := o
   cases r with
   | val v => have := h hs; subst this; rfl
   | raised v =>
    have := h (Nat.le_trans (hg v s1).asked hs)
    subst this
    exact hr v s1 hs
   | stuck => have := h hs; subst this; rfl
   | cut => have := h hs; subst this; rfl
 · exact AsksF.rfl' _
theorem rhsF_asks (k m : Int) (l : List PV) (ks : List Int) (bl : List Anf) (e : PEnv) (s : FSt) : AsksF n (rhsF funs inp rec k m l ks bl e s) (rhsF funs inp' rec' k m l ks bl e s) := by
 unfold rhsF
 split
 · exact AsksF.rfl' _
 split
 · exact AsksF.rfl' _
 split
 · exact AsksF.rfl' _
 split
 · exact AsksF.rfl' _
 split
 · exact callF_asks hrel _ _ _
 split
 · split
   · exact hrel _ _ _
   · exact AsksF.rfl' _
 · exact primF_asks hle hrel h1 h2 h3 _ _ _
theorem bindF_asks (x k m : Int) (ats : List Atm) (ks : List Int) (bl : List Anf) (rest : Anf) (e : PEnv) (s : FSt) : AsksF n (bindF funs inp rec x k m ats ks bl rest e s) (bindF funs inp' rec' x k m ats ks bl rest e s) := by
 unfold bindF
 split
 · simp only []
   generalize atomsP (groupEnv ks s.made.length e) ats = q
   cases q with
   | some l => exact hrel _ _ _
   | none => exact AsksF.rfl' _
 · generalize atomsP e ats = q
   cases q with
   | some l => exact (rhsF_asks hle hrel h1 h2 h3 _ _ _ _ _ _ _).andThen (m := 0) (fun v s => hrel _ _ _) (fun v s => hle _ _ _)
   | none => exact AsksF.rfl' _
end
theorem evF_asks (funs : List FFun) {inp inp' : List Int} {m : Nat} (h1 : m ≤ inp.length) (h2 : m ≤ inp'.length) (h3 : ∀ j, j < m → nth inp' j = nth inp j) : ∀ (n : Nat) (t : Anf) (e : PEnv) (s : FSt), AsksF m (evF funs inp n t e s) (evF funs inp' n t e s)
 | 0, _, _, s => AsksF.rfl' _
 | n + 1, .ret a, e, s => by
  unfold evF
  exact AsksF.rfl' _
 | n + 1, .bind x k m' ats ks bl rest, e, s => by
  unfold evF
  split
  · exact AsksF.rfl' _
  · exact bindF_asks (evF_le funs inp n) (evF_asks funs h1 h2 h3 n) h1 h2 h3 x k m' ats ks bl rest e { s with left := s.left - 1 }
theorem inputF_ends {funs : List FFun} {t : Anf} {inp more : List Int} {n F : Nat} {s : FSt} (hn : (evF funs inp (F + 1) t [] s).2.asked = n) (hl : n ≤ inp.length) :
 evF funs (inp.take n ++ more) (F + 1) t [] s = evF funs (inp.take n) (F + 1) t [] s := by
 have e1 := evF_asks funs (inp := inp) (inp' := inp.take n) hl (by simp; omega) (fun j hj => by simp [nth, hj]) (F + 1) t [] s (by omega)
 have e2 := evF_asks funs (inp := inp) (inp' := inp.take n ++ more) hl (by simp; omega) (fun j hj => by simp [nth]; rw [List.getElem?_append_left (by simp; omega)]; simp [hj]) (F + 1) t [] s (by omega)
 rw [e1, e2]
end Go.Proofs.YtnobggabjpcbfaaGreat
