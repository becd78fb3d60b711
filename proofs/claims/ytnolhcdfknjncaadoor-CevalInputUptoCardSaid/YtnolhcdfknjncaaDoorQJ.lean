/-
  7 texts of this seat in one: J0 J1 J2 J3 J4 J5 J6.
-/
import Derived.Test.YtnolhcdfknjncaaDoorY38
import Derived.Test.YtnolhcdfknjncaaDoorQU
import Derived.Test.YtnolhcdfknjncaaDoorQI
import Derived.Test.YtnolhcdfknjncaaDoorYN
import Derived.Test.YtnolhcdfknjncaaDoorQP
import Derived.Test.YtnolhcdfknjncaaDoorQE
import Derived.Test.YtnolhcdfknjncaaDoorQR
/-
  CevalInput: the document's Begin; words of ends and boxes.
-/
set_option linter.unusedVariables false
set_option linter.unusedSimpArgs false
namespace Go.Proofs.YtnolhcdfknjncaaDoor
open Go.RowKit

section
variable {X Y Y' : Nat → Prop} {B mb cb n : Nat} {inp : List Int} {fuel : FL} {s s1 : St} {W W' V0 V w w' : World} {o : Out}
abbrev mObj (Ai : Option Addr) (n ci : Nat) (f : Int) : Obj := .cells #[.slice Ai n ci, .int .i64 0, .int .i64 f, .int .i64 0, .slice none 0 0, .slice none 0 0, .bool false, .bool false, .bool false, .int .i64 0, .int .i64 0, .slice none 0 0] 73
set_option maxRecDepth 100000 in
set_option maxHeartbeats 2000000 in
theorem rbegin_any (Ai : Option Addr) (n ci : Nat) (f : Int) (w : World) : Calls Tryd.prog 27 #[.slice Ai n ci, .int .i64 f] w fun e w' => e = .returned (.pointer (some ⟨w.heap.size, 0, none⟩)) ∧ w.alloc (mObj Ai n ci (fuelOf f : Int)) = w' := by
  have HF := Lib.hid (fuelOf_int f)
  generalize ((fuelOf f : Nat) : Int) = ff at *
  go_enter Tryd.func27, Tryd.ntmps27
  go_wp2_with fail
  all_goals
    go_ret
    refine ⟨rfl, ?_⟩
    have hv := HF.out
    first
      | (obtain rfl : ff = 0 := (by omega); rfl)
      | (obtain rfl : ff = 1000000 := (by omega); rfl)
      | (obtain rfl : ff = f := (by omega); rfl)
theorem RGo.start {W0 W : World} {inp : List Int} {Ai : Option Addr} {ci : Nat} {f : Nat} (hf : f ≤ 1000000) (hi : IntsIn W0.heap.size W0 Ai inp) (hci : inp.length ≤ ci) (hil : inp.length ≤ 4096) (hb : Below W0.heap.size W0 W) (hmb : W0.heap.size ≤ mb) (hcb : W0.heap.size ≤ cb) (hne : mb ≠ cb)
    (hm : W.heap[mb]? = some (.cells #[.slice Ai inp.length ci, .int .i64 0, .int .i64 (f : Int), .int .i64 0, .slice none 0 0, .slice none 0 0, .bool false, .bool false, .bool false, .int .i64 0, .int .i64 0, .slice none 0 0] 73 (0, 0))) (hc : W.heap[cb]? = some (.cells #[.pointer (some ⟨mb, 0, none⟩), .slice none 0 0] 61 (0, 0))) :
    RGo (Own2 mb cb) W0.heap.size mb cb inp ⟨f, f⟩ (initSt f) W where
  hmb := hmb
  hcb := hcb
  hne := hne
  hX := fun k hk => hk
  m := ⟨Ai, ci, none, 0, none, 0, by rw [hm]; simp [initSt], hi.below hb, hci, Nat.le_refl _, Nat.le_refl _, ⟨fun a ha => (by cases ha), .inl rfl⟩, .inl rfl⟩
  c := ⟨none, 0, hc, Nat.le_refl _, .inl rfl⟩
  left := Nat.le_refl _
  fuelB := hf
  limB := Nat.le_refl _
  inpB := hil
  askB := by simp [initSt]
  outB := by simp [initSt]
  celB := by simp [initSt]
  fnsB := by simp [initSt]
end
theorem endAt_cells {V : World} {X : Nat} {pe : PEnd} (h : EndAt V X pe) : ∃ A c, V.cell? ⟨X, 0, none⟩ = some (.int .i64 pe.kind) ∧ V.cell? ⟨X, 1, none⟩ = some (.int .i64 pe.n) ∧ V.cell? ⟨X, 2, none⟩ = some (.slice A pe.out.length c) ∧ V.cell? ⟨X, 3, none⟩ = some (.int .i64 pe.steps) ∧ IntsIn V.heap.size V A pe.out := by
  obtain ⟨A, c, h9, hi⟩ := h
  exact ⟨A, c, by simp [World.cell?, h9], by simp [World.cell?, h9], by simp [World.cell?, h9], by simp [World.cell?, h9], hi⟩
theorem rbox_cells {V V2 : World} {X : Nat} {a b c d : Value} (h : V.heap[X]? = some (.cells #[a, b, c, d] 26 (0, 0))) (hb : Below V.heap.size V V2) : V2.cell? ⟨X, 0, none⟩ = some a ∧ V2.cell? ⟨X, 1, none⟩ = some b ∧ V2.cell? ⟨X, 2, none⟩ = some c ∧ V2.cell? ⟨X, 3, none⟩ = some d := by
  have h2 := (hb.block X (Array.getElem?_eq_some_iff.1 h).1).trans h
  simp [World.cell?, h2]
theorem small_of : ∀ {t : Core}, WT t → nodesE t < 400 → SmallT t := by
  intro t h
  induction h with
  | @mk t hn hk ih =>
    intro hs
    obtain ⟨k, n, ks, cs⟩ := t
    simp only [nodesE] at hs
    have h1 := nodesK_ge (1 + ks.length) cs
    have h2 := nodesK_kid _ cs hs
    exact .mk hn (by show ks.length ≤ 1000; omega) (fun c hc => ih c hc (by have := h2 c hc; omega))
open Go.Proofs.YtnolhcdfknjncaaDoorW.PrintWords Go.Proofs.YtnolhcdfknjncaaDoorW.PrintLast
theorem putSel_skip {b : Nat → Bool} {i : Nat} : ∀ {l : List (Nat × Tmp × Value)} {a : Act}, (l.all fun e => !(e.1 == i)) = true → putSel a (up b i) l = putSel a b l
  | [], a, _ => rfl
  | e :: l, a, h => by
    rw [List.all_cons, Bool.and_eq_true] at h
    have he : e.1 ≠ i := by simpa using h.1
    unfold putSel
    rw [up_ne he]
    exact putSel_skip h.2
end Go.Proofs.YtnolhcdfknjncaaDoor

/-
  The plain law of ints that are not asked for.
-/
set_option linter.unusedVariables false
set_option linter.unusedSimpArgs false
namespace Go.Proofs.YtnolhcdfknjncaaDoor

/-- more was asked for -/
def AskLe (s s' : St) : Prop := s.asked ≤ s'.asked
theorem AskLe.refl (s : St) : AskLe s s := Nat.le_refl _
theorem AskLe.trans {a b c : St} (h : AskLe a b) (k : AskLe b c) : AskLe a c := Nat.le_trans h k
theorem andThen_ask {s : St} {o : Out} {f : PV → St → Out} (h : AskLe s o.2) (hf : ∀ v s', AskLe s' (f v s').2) : AskLe s (Out.andThen o f).2 := by
  obtain ⟨r, s'⟩ := o
  cases r
  · exact h.trans (hf _ _)
  all_goals exact h
section
variable {inp : List Int} {rec : Core → PEnv → St → Out} (hrec : ∀ t e s, AskLe s (rec t e s).2)
include hrec
theorem callP_ask (f a : PV) (s : St) : AskLe s (callP rec f a s).2 := by
  unfold callP
  cases f <;> first | exact AskLe.refl _ | exact hrec _ _ _
theorem evs_ask (e : PEnv) : ∀ (cs : List Core) (acc : List PV) (s : St), AskLe s (evs rec e cs acc s).2
  | [], acc, s => AskLe.refl _
  | c :: cs, acc, s => by
    have h := hrec c e s
    unfold evs
    generalize rec c e s = o at h
    obtain ⟨r, s'⟩ := o
    cases r
    · exact h.trans (evs_ask e cs _ s')
    all_goals exact h
theorem primP_ask (p : Int) (l : List PV) (s : St) : AskLe s (primP inp rec p l s).2 := by
  unfold primP
  simp only []
  split
  · exact Nat.le_refl _
  split
  · split <;> exact AskLe.refl _
  split
  · split
    · exact Nat.le_refl _
    · exact AskLe.refl _
  split
  · split
    · exact Nat.le_refl _
    · exact AskLe.refl _
  split
  · unfold readP
    split <;> exact Nat.le_succ _
  split
  · split <;> exact AskLe.refl _
  split
  · have h := callP_ask hrec (l[0]?.getD default) (.int 0) s
    split
    · rename_i v s' heq
      rw [heq] at h
      exact h.trans (callP_ask hrec _ _ _)
    · exact h
  split
  · split <;> exact AskLe.refl _
  · exact AskLe.refl _
theorem bodyP_ask (t : Core) (e : PEnv) (s : St) : AskLe s (bodyP inp rec t e s).2 := by
  unfold bodyP
  simp only []
  split
  · split <;> exact AskLe.refl _
  split
  · exact AskLe.refl _
  split
  · exact Nat.le_refl _
  split
  · exact andThen_ask (hrec _ _ _) fun f s => andThen_ask (hrec _ _ _) fun a s => callP_ask hrec f a s
  split
  · exact andThen_ask (hrec _ _ _) fun f s => hrec _ _ _
  split
  · have h := hrec (t.cs[t.cs.length - 1]?.getD default) (fixEnv t.ks s.fns.length e) { s with fns := s.fns ++ fixFns (fixEnv t.ks s.fns.length e) t.ks t.cs }
    exact h
  split
  · refine andThen_ask (hrec _ _ _) fun v s => ?_
    split
    · split <;> exact AskLe.refl _
    · exact AskLe.refl _
  split
  · refine andThen_ask (hrec _ _ _) fun v s => ?_
    split
    · exact hrec _ _ _
    · exact AskLe.refl _
  · have h := evs_ask hrec e t.cs [] s
    split
    · rename_i r s' heq
      rw [heq] at h
      exact h
    · rename_i l s' heq
      rw [heq] at h
      split
      · exact h
      · exact h.trans (primP_ask hrec _ _ _)
end
theorem ev_ask (inp : List Int) : ∀ (n : Nat) (t : Core) (e : PEnv) (s : St), AskLe s (ev inp n t e s).2
  | 0, _, _, s => AskLe.refl _
  | n + 1, t, e, s => by
    unfold ev
    split
    · exact AskLe.refl _
    · exact bodyP_ask (inp := inp) (ev_ask inp n) t e { s with left := s.left - 1 }

/-- a run that asks for no more than n ints, with another input -/
def Asks (n : Nat) (o o' : Out) : Prop := o.2.asked ≤ n → o' = o
theorem Asks.rfl' {n : Nat} (o : Out) : Asks n o o := fun _ => rfl
theorem Asks.andThen {n : Nat} {o o' : Out} {f f' : PV → St → Out} (h : Asks n o o') (hf : ∀ v s, Asks n (f v s) (f' v s)) (hg : ∀ v s, AskLe s (f v s).2) : Asks n (Out.andThen o f) (Out.andThen o' f') := by
  intro hn
  have h1 : AskLe o.2 (Out.andThen o f).2 := andThen_ask (AskLe.refl _) hg
  have h2 := h (Nat.le_trans h1 hn)
  subst h2
  obtain ⟨r, s⟩ := o'
  cases r with
  | val v => exact hf v s hn
  | raised v => rfl
  | stuck => rfl
  | cut => rfl
section
variable {inp inp' : List Int} {n : Nat} {rec rec' : Core → PEnv → St → Out} (hle : ∀ t e s, AskLe s (rec t e s).2) (hrel : ∀ t e s, Asks n (rec t e s) (rec' t e s)) (h1 : n ≤ inp.length) (h2 : n ≤ inp'.length) (h3 : ∀ j, j < n → nth inp' j = nth inp j)
include hrel
theorem callP_asks (f a : PV) (s : St) : Asks n (callP rec f a s) (callP rec' f a s) := by
  unfold callP
  cases f <;> first | exact Asks.rfl' _ | exact hrel _ _ _
include hle
theorem evs_asks (e : PEnv) : ∀ (cs : List Core) (acc : List PV) (s : St), (evs rec e cs acc s).2.asked ≤ n → evs rec' e cs acc s = evs rec e cs acc s
  | [], acc, s, _ => rfl
  | c :: cs, acc, s, hs => by
    have h := hrel c e s
    have hg := fun (s'' : St) acc' => evs_ask hle e cs acc' s''
    unfold evs at hs ⊢
    generalize rec c e s = o at *
    generalize rec' c e s = o' at *
    obtain ⟨r, s1⟩ := o
    cases r with
    | val v =>
      have := h (Nat.le_trans (hg s1 _) hs)
      subst this
      exact evs_asks e cs (acc ++ [v]) s1 hs
    | raised v => have := h hs; subst this; rfl
    | stuck => have := h hs; subst this; rfl
    | cut => have := h hs; subst this; rfl
include h1 h2 h3
theorem primP_asks (p : Int) (l : List PV) (s : St) : Asks n (primP inp rec p l s) (primP inp' rec' p l s) := by
  unfold primP
  simp only []
  split
  · exact Asks.rfl' _
  split
  · exact Asks.rfl' _
  split
  · exact Asks.rfl' _
  split
  · exact Asks.rfl' _
  split
  · intro hs
    unfold readP at hs ⊢
    have hn : s.asked + 1 ≤ n := by
      by_cases hc : s.asked < inp.length
      · rw [if_pos hc] at hs; exact hs
      · rw [if_neg hc] at hs; exact hs
    rw [if_pos (by omega), if_pos (by omega), h3 _ (by omega)]
  split
  · exact Asks.rfl' _
  split
  · intro hs
    have h := callP_asks hrel (l[0]?.getD default) (.int 0) s
    have hg := fun v s1 => callP_ask hle (l[1]?.getD default) v s1
    have hr := fun v s1 => callP_asks hrel (l[1]?.getD default) v s1
    generalize callP rec (l[0]?.getD default) (.int 0) s = o at *
    generalize callP rec' (l[0]?.getD default) (.int 0) s = o' at *
    obtain ⟨r, s1⟩ := o
    cases r with
    | val v => have := h hs; subst this; rfl
    | raised v =>
      have := h (Nat.le_trans (hg v s1) hs)
      subst this
      exact hr v s1 hs
    | stuck => have := h hs; subst this; rfl
    | cut => have := h hs; subst this; rfl
  · exact Asks.rfl' _
theorem bodyP_asks (t : Core) (e : PEnv) (s : St) : Asks n (bodyP inp rec t e s) (bodyP inp' rec' t e s) := by
  unfold bodyP
  simp only []
  split
  · exact Asks.rfl' _
  split
  · exact Asks.rfl' _
  split
  · exact Asks.rfl' _
  split
  · exact (hrel _ _ _).andThen (fun f s => (hrel _ _ _).andThen (fun a s => callP_asks hrel f a s) (fun a s => callP_ask hle f a s)) (fun f s => andThen_ask (hle _ _ _) fun a s => callP_ask hle f a s)
  split
  · exact (hrel _ _ _).andThen (fun v s => hrel _ _ _) (fun v s => hle _ _ _)
  split
  · exact hrel _ _ _
  split
  · refine (hrel _ _ _).andThen (fun v s => Asks.rfl' _) (fun v s => ?_)
    split
    · split <;> exact AskLe.refl _
    · exact AskLe.refl _
  split
  · refine (hrel _ _ _).andThen (fun v s => ?_) (fun v s => ?_)
    · split
      · exact hrel _ _ _
      · exact Asks.rfl' _
    · split
      · exact hle _ _ _
      · exact AskLe.refl _
  · intro hs
    have he := evs_asks hle hrel e t.cs [] s
    have hg := fun l s1 => primP_ask (inp := inp) hle t.n l s1
    have hp := fun l s1 => primP_asks hle hrel h1 h2 h3 t.n l s1
    generalize evs rec e t.cs [] s = o at *
    generalize evs rec' e t.cs [] s = o' at *
    obtain ⟨r, s1⟩ := o
    cases r with
    | inl r => have := he hs; subst this; rfl
    | inr l =>
      by_cases hk : t.k = 7
      · simp only [if_pos hk] at hs ⊢
        have := he hs; subst this; rfl
      · simp only [if_neg hk] at hs ⊢
        have := he (Nat.le_trans (hg l s1) hs)
        subst this
        exact hp l s1 hs
end
theorem ev_asks {inp inp' : List Int} {m : Nat} (h1 : m ≤ inp.length) (h2 : m ≤ inp'.length) (h3 : ∀ j, j < m → nth inp' j = nth inp j) : ∀ (n : Nat) (t : Core) (e : PEnv) (s : St), Asks m (ev inp n t e s) (ev inp' n t e s)
  | 0, _, _, s => Asks.rfl' _
  | n + 1, t, e, s => by
    unfold ev
    split
    · exact Asks.rfl' _
    · exact bodyP_asks (ev_ask inp n) (ev_asks h1 h2 h3 n) h1 h2 h3 t e { s with left := s.left - 1 }
/-- **the law of ints that are not asked for** -/
theorem input_ends {t : Core} {inp more : List Int} {n F : Nat} {s : St} (hn : (ev inp (F + 1) t [] s).2.asked = n) (hl : n ≤ inp.length) :
    ev (inp.take n ++ more) (F + 1) t [] s = ev (inp.take n) (F + 1) t [] s := by
  have e1 := ev_asks (inp := inp) (inp' := inp.take n) hl (by simp; omega) (fun j hj => by simp [nth, hj]) (F + 1) t [] s (by omega)
  have e2 := ev_asks (inp := inp) (inp' := inp.take n ++ more) hl (by simp; omega) (fun j hj => by simp [nth]; rw [List.getElem?_append_left (by simp; omega)]; simp [hj]) (F + 1) t [] s (by omega)
  rw [e1, e2]
end Go.Proofs.YtnolhcdfknjncaaDoor

/-
  The document's Asked: how many ints a run asks for.
-/
set_option linter.unusedVariables false
set_option linter.unusedSimpArgs false
namespace Go.Proofs.YtnolhcdfknjncaaDoor
open Go.RowKit

/-- how many ints a run asks for -/
def askN (t : Core) (inp : List Int) (f : Int) : Nat := if rightE t = 0 then (ev inp (fuelOf f + 1) t [] (initSt (fuelOf f))).2.asked else 0
section
variable {X Y Y' : Nat → Prop} {B mb cb n : Nat} {inp : List Int} {fuel : FL} {s s1 : St} {W W' V0 V w w' : World} {o : Out}
theorem OutIn.cells2 {a b c : Value} (h : OutIn X B mb cb inp fuel W a b c o) : W.cell? ⟨cb, 0, none⟩ = some (.pointer (some ⟨mb, 0, none⟩)) ∧ W.cell? ⟨mb, 1, none⟩ = some (.int .i64 (o.2.asked : Int)) := by
  obtain ⟨r, s'⟩ := o
  cases r with
  | val v => exact ⟨h.1.cells.2.2.2.2.2.2.2.2.2.2, h.1.cells.1⟩
  | raised v => obtain ⟨y0, y1, y2, g1, -⟩ := h; exact ⟨g1.cells.2.2.2.2.2.2.2.2.2.2, g1.cells.1⟩
  | stuck => exact ⟨RIn.cells h |>.2.2.2.2.2.2.2.2.2.2, (RIn.cells h).1⟩
  | cut => exact ⟨RIn.cells h |>.2.2.2.2.2.2.2.2.2.2, (RIn.cells h).1⟩
set_option maxRecDepth 100000 in
set_option maxHeartbeats 4000000 in
theorem rasked_any {w : World} {t : Core} {v : Array Value} (hin : CoreIn w.heap.size w t v) (hsm : rightE t = 0 → SmallT t) {inp : List Int} {Ai : Option Addr} {ci : Nat} (hi : IntsIn w.heap.size w Ai inp) (hci : inp.length ≤ ci) (hil : inp.length ≤ 4096) (f : Int) :
    Calls Tryd.prog 19 #[.agg v, .slice Ai inp.length ci, .int .i64 f] w fun e w' => e = .returned (.int .i64 (askN t inp f : Nat)) ∧ Below w.heap.size w w' := by
  obtain ⟨k0, n0, A2, n2, d2, A3, n3, d3, rfl⟩ := hin.shape
  have hb0 := below_al1 w (.cells #[.int .i64 k0, .int .i64 n0, .slice A2 n2 d2, .slice A3 n3 d3] 26)
  have hq := new1 w (.cells #[.int .i64 k0, .int .i64 n0, .slice A2 n2 d2, .slice A3 n3 d3] 26)
  generalize hW0 : (w.alloc (.cells #[.int .i64 k0, .int .i64 n0, .slice A2 n2 d2, .slice A3 n3 d3] 26)) = W0 at *
  have hsz : w.heap.size < W0.heap.size := (Array.getElem?_eq_some_iff.1 hq).1
  have hin0 : CoreIn W0.heap.size W0 t #[.int .i64 k0, .int .i64 n0, .slice A2 n2 d2, .slice A3 n3 d3] := (hin.kept hb0).mono hb0.size
  have hi0 : IntsIn W0.heap.size W0 Ai inp := (hi.below hb0).mono hb0.size
  have u0 : W0.cell? ⟨w.heap.size, 0, none⟩ = some (.int .i64 k0) := cell_block hq rfl
  have u1 : W0.cell? ⟨w.heap.size, 1, none⟩ = some (.int .i64 n0) := cell_block hq rfl
  have u2 : W0.cell? ⟨w.heap.size, 2, none⟩ = some (.slice A2 n2 d2) := cell_block hq rfl
  have u3 : W0.cell? ⟨w.heap.size, 3, none⟩ = some (.slice A3 n3 d3) := cell_block hq rfl
  have HRT := Lib.hid (rright_any W0 hin0 (Nat.le_refl _))
  have hiff := right_iff t
  by_cases hr : rightR t = 0
  · have hE := hiff.1 hr
    have hst := hsm hE
    have hrun : askN t inp f = (ev inp (fuelOf f + 1) t [] (initSt (fuelOf f))).2.asked := by
      unfold askN
      rw [if_pos hE]
    rw [hrun]
    rw [hr] at HRT
    have HBEG := Lib.hid (fun (V : World) => rbegin_any Ai inp.length ci f V)
    have HMAIN := Lib.hid (fun (w1 : World) (hb1 : Below W0.heap.size W0 w1) =>
      (show (((w1.alloc (mObj Ai inp.length ci (fuelOf f : Int))).alloc (.cells #[.pointer (some ⟨w1.heap.size, 0, none⟩), .slice none 0 0] 61)).cell? ⟨w.heap.size, 0, none⟩ = some (.int .i64 k0) ∧ ((w1.alloc (mObj Ai inp.length ci (fuelOf f : Int))).alloc (.cells #[.pointer (some ⟨w1.heap.size, 0, none⟩), .slice none 0 0] 61)).cell? ⟨w.heap.size, 1, none⟩ = some (.int .i64 n0) ∧ ((w1.alloc (mObj Ai inp.length ci (fuelOf f : Int))).alloc (.cells #[.pointer (some ⟨w1.heap.size, 0, none⟩), .slice none 0 0] 61)).cell? ⟨w.heap.size, 2, none⟩ = some (.slice A2 n2 d2) ∧ ((w1.alloc (mObj Ai inp.length ci (fuelOf f : Int))).alloc (.cells #[.pointer (some ⟨w1.heap.size, 0, none⟩), .slice none 0 0] 61)).cell? ⟨w.heap.size, 3, none⟩ = some (.slice A3 n3 d3)) ∧
        Calls Tryd.prog 28 #[.pointer (some ⟨w1.heap.size + 1, 0, none⟩), .agg #[.int .i64 k0, .int .i64 n0, .slice A2 n2 d2, .slice A3 n3 d3], .pointer none] ((w1.alloc (mObj Ai inp.length ci (fuelOf f : Int))).alloc (.cells #[.pointer (some ⟨w1.heap.size, 0, none⟩), .slice none 0 0] 61)) (fun en w3 => (∃ k n A l d, en = .returned (.agg #[.int .i64 k, .int .i64 n, .slice A l d])) ∧ w3.cell? ⟨w1.heap.size + 1, 0, none⟩ = some (.pointer (some ⟨w1.heap.size, 0, none⟩)) ∧
          w3.cell? ⟨w1.heap.size, 1, none⟩ = some (.int .i64 ((ev inp (fuelOf f + 1) t [] (initSt (fuelOf f))).2.asked : Int)) ∧ Below w.heap.size w w3) from by
        have hal := below_al2 w1 (mObj Ai inp.length ci (fuelOf f : Int)) (.cells #[.pointer (some ⟨w1.heap.size, 0, none⟩), .slice none 0 0] 61)
        have hm := ((below_al1 _ (.cells #[.pointer (some ⟨w1.heap.size, 0, none⟩), .slice none 0 0] 61)).block w1.heap.size (by simp)).trans (new1 w1 (mObj Ai inp.length ci (fuelOf f : Int)))
        have hcc := new2 w1 (mObj Ai inp.length ci (fuelOf f : Int)) (.cells #[.pointer (some ⟨w1.heap.size, 0, none⟩), .slice none 0 0] 61)
        generalize ((w1.alloc (mObj Ai inp.length ci (fuelOf f : Int))).alloc (.cells #[.pointer (some ⟨w1.heap.size, 0, none⟩), .slice none 0 0] 61)) = w2 at *
        have hb2 : Below W0.heap.size W0 w2 := hb1.trans (hal.mono hb1.size)
        have hs1 := hb1.size
        have hsz2 : w1.heap.size + 1 < w2.heap.size := (Array.getElem?_eq_some_iff.1 hcc).1
        have hg : RGo (Own2 w1.heap.size (w1.heap.size + 1)) W0.heap.size w1.heap.size (w1.heap.size + 1) inp ⟨fuelOf f, fuelOf f⟩ (initSt (fuelOf f)) w2 := RGo.start (fuelOf_le f) hi0 hci hil hb2 hs1 (by omega) (by omega) hm hcc
        refine ⟨⟨cell_behind hb2 u0, cell_behind hb2 u1, cell_behind hb2 u2, cell_behind hb2 u3⟩, ?_⟩
        refine (rterm_any W0.heap.size w1.heap.size (w1.heap.size + 1) inp (fuelOf f + 1) _ _ _ w2 t _ _ _ _ [] (.pointer none) hg (fun k hk => by rcases hk with hk | hk <;> omega) (hin0.kept hb2) hst .nil (Nat.lt_succ_self _)).mono fun en w3 hp => ?_
        obtain ⟨hst3, -, k, n, A, l, d, rfl, ho⟩ := hp
        obtain ⟨g1, g2⟩ := ho.cells2
        have hb5 := hb0.trans ((hb2.trans hst3.bel).mono hb0.size)
        exact ⟨⟨k, n, A, l, d, rfl⟩, g1, g2, hb5⟩))
    obtain ⟨q0, hpe⟩ : ∃ q, (ev inp (fuelOf f + 1) t [] (initSt (fuelOf f))).2.asked = q := ⟨_, rfl⟩
    rw [hpe] at HMAIN ⊢
    clear hin hi hb0 hq hin0 hi0 hiff hr hE hst hrun hpe hsm hci hil
    generalize inp.length = il at *
    go_enter Tryd.func19, Tryd.ntmps19
    go_wp2_with (first
      | (go_at_call 15; refine HRT.out.mono ?_; rintro en w1 ⟨rfl, hb1⟩; obtain ⟨⟨t0, t1, t2, t3⟩, hTT⟩ := HMAIN.out w1 hb1; have HTT := Lib.hid hTT; clear hTT hb1)
      | (go_at_call 27; refine (HBEG.out _).mono ?_; rintro en w2 ⟨rfl, rfl⟩)
      | (go_at_call 28; refine HTT.out.mono ?_; rintro en w3 ⟨⟨k, n, A, l, d, rfl⟩, hmc, hma, hR⟩; have HR := Lib.hid hR; clear hR))
    go_ret
    exact ⟨rfl, HR.out⟩
  · have hrun : askN t inp f = 0 := by
      unfold askN
      rw [if_neg (fun e => hr (hiff.2 e))]
    rw [hrun]
    have hr' : (rightR t != 0) = true := by simpa using hr
    have hr2 : (rightR t == 0) = false := by simpa using hr
    have HP := Lib.hid hb0
    clear hin hi hb0 hq hin0 hi0 hiff hr hrun hsm hci hil
    generalize inp.length = il at *
    generalize rightR t = rr at *
    go_enter Tryd.func19, Tryd.ntmps19
    go_wp2_with (go_at_call 15; refine HRT.out.mono ?_; rintro en w1 ⟨rfl, hb1⟩; have HB1 := Lib.hid hb1; clear hb1)
    go_ret
    exact ⟨rfl, HP.out.trans (HB1.out.mono HP.out.size)⟩
end
end Go.Proofs.YtnolhcdfknjncaaDoor

/-
  CevalInput: the second run: its input is put together, its end is laid into a variable, in whatever order.
-/
set_option linter.unusedVariables false
set_option linter.unusedSimpArgs false
namespace Go.Proofs.YtnolhcdfknjncaaDoor
open Go.RowKit Go.Proofs.YtnolhcdfknjncaaDoorW.PrintLast

/-- ints as values -/
abbrev iv (ks : List Int) : List Value := ks.map (fun n => Value.int .i64 n)
theorem iv_at (ks : List Int) (j : Nat) (u : Value) : (iv ks)[j]? = some u → j < ks.length ∧ u = .int .i64 (nth ks j) := by
  intro h
  rw [List.getElem?_map] at h
  cases hj : ks[j]? with
  | none => rw [hj] at h; cases h
  | some x =>
    rw [hj] at h
    have hlt := (List.getElem?_eq_some_iff.1 hj).1
    refine ⟨hlt, ?_⟩
    simp only [Option.map_some, Option.some.injEq] at h
    rw [← h]
    unfold nth
    rw [hj]; rfl
theorem iv_one (ks : List Int) : ∀ u ∈ iv ks, u.oneCell' = true := by
  intro u hu
  obtain ⟨x, -, rfl⟩ := List.mem_map.1 hu
  rfl
theorem ints_row {B : Nat} {w : World} {A : Option Addr} {ks : List Int} (h : IntsIn B w A ks) : RowOf w A (iv ks) := by
  rcases h.2 with rfl | ⟨b, o, rfl, hb, hc⟩
  · rcases A with _ | ad
    · exact .inl ⟨rfl, rfl⟩
    · exact .inr ⟨_, rfl, by simp [iv]⟩
  · refine .inr ⟨_, rfl, fun j u hj => ?_⟩
    obtain ⟨h1, rfl⟩ := iv_at ks j u hj
    rw [add_plain]
    exact hc j h1
theorem own_intsJ {base : Nat} {e : TypeId} {w : World} {v : Value} {ks : List Int} (hl : ks.length * 8 ≤ 140737488351232) (h : w.ownsRow base e 1 v ks.length (iv ks)) : ∃ A c, v = .slice A ks.length c ∧ ks.length ≤ c ∧ IntsIn w.heap.size w A ks := by
  rcases Nat.eq_zero_or_pos ks.length with h0 | h0
  · have hn : ks = [] := List.eq_nil_of_length_eq_zero h0
    subst hn
    rcases h.2 with ⟨rfl, _⟩ | ⟨g, cap, cur, rfl, _⟩
    · exact ⟨none, 0, rfl, Nat.le_refl _, by simp, .inl rfl⟩
    · exact ⟨_, cap, rfl, Nat.zero_le _, by simp, .inl rfl⟩
  · obtain ⟨g, cap, rfl, -, hcap, -, hlt, hc⟩ := own_cell h h0
    refine ⟨_, cap, rfl, hcap, hl, .inr ⟨g, 0, rfl, hlt, fun j hj => ?_⟩⟩
    refine hc j _ ?_
    rw [List.getElem?_map]
    unfold nth
    rw [List.getElem?_eq_getElem hj]; rfl
theorem ints_take {B : Nat} {w : World} {A : Option Addr} {ks : List Int} (h : IntsIn B w A ks) (n : Nat) : IntsIn B w A (ks.take n) := by
  have hl := h.1
  have ht : (ks.take n).length ≤ ks.length := by simp; omega
  refine ⟨by omega, ?_⟩
  rcases h.2 with rfl | ⟨b, o, rfl, hb, hc⟩
  · exact .inl (by simp)
  · refine .inr ⟨b, o, rfl, hb, fun j hj => ?_⟩
    have hj2 : j < n ∧ j < ks.length := by simp at hj; omega
    have := hc j hj2.2
    rw [this]
    unfold nth
    rw [List.getElem?_take, if_pos hj2.1]

/-- what holds while the input is put together and the run goes -/
structure InS (V : World) (pe : PEnd) (pre all : List Int) (b : Nat → Bool) (vE v1 : Value) (A2 : Option Addr) (c2 : Nat) (A : Option Addr) (c X : Nat) (w : World) : Prop where
  bel : Below V.heap.size V w
  o7 : b 7 = true → b 5 = true
  o10 : b 10 = true → b 7 = true
  o12 : b 12 = true → b 10 = true ∧ b 11 = true
  e0 : b 1 = true → b 5 = false → w.ownsRow V.heap.size 3 1 vE 0 []
  e1 : b 5 = true → b 7 = false → w.ownsRow V.heap.size 3 1 v1 pre.length (iv pre)
  e2 : b 7 = true → b 10 = false → IntsIn w.heap.size w A2 all ∧ all.length ≤ c2
  r : b 10 = true → IntsIn w.heap.size w A pe.out
  x : b 11 = true → V.heap.size ≤ X ∧ X < w.heap.size ∧ (b 12 = false → Zero w X)
  d0 : b 1 = true → b 5 = false → b 11 = true → vE.ownBlock ≠ some X
  d1 : b 5 = true → b 7 = false → b 11 = true → v1.ownBlock ≠ some X
  n : b 10 = true → b 11 = true → Off A pe.out X
  s : b 12 = true → X < w.heap.size ∧ w.heap[X]? = some (endC pe A c)
theorem InS.start {V w : World} {pe : PEnd} {pre all : List Int} (hb : Below V.heap.size V w) : InS V pe pre all (fun _ => false) (.bool false) (.bool false) none 0 none 0 0 w :=
  ⟨hb, fun h => Bool.noConfusion h, fun h => Bool.noConfusion h, fun h => Bool.noConfusion h, fun h => Bool.noConfusion h, fun h => Bool.noConfusion h, fun h => Bool.noConfusion h, fun h => Bool.noConfusion h, fun h => Bool.noConfusion h, fun h => Bool.noConfusion h, fun h => Bool.noConfusion h, fun h => Bool.noConfusion h, fun h => Bool.noConfusion h⟩
section
variable {V w w' : World} {pe : PEnd} {pre all : List Int} {b : Nat → Bool} {vE v1 : Value} {A2 A : Option Addr} {c2 c X : Nat}
/-- an operation that leaves the world -/
theorem InS.pass (h : InS V pe pre all b vE v1 A2 c2 A c X w) {i : Nat} (hi : i = 0 ∨ i = 2 ∨ i = 3 ∨ i = 4 ∨ i = 6 ∨ i = 8 ∨ i = 9) : InS V pe pre all (up b i) vE v1 A2 c2 A c X w := by
  have e : ∀ j, j = 1 ∨ j = 5 ∨ j = 7 ∨ j = 10 ∨ j = 11 ∨ j = 12 → up b i j = b j := fun j hj => up_ne (by omega)
  have g1 := e 1 (by omega)
  have g5 := e 5 (by omega)
  have g7 := e 7 (by omega)
  have g10 := e 10 (by omega)
  have g11 := e 11 (by omega)
  have g12 := e 12 (by omega)
  constructor
  · exact h.bel
  · rw [g7, g5]; exact h.o7
  · rw [g10, g7]; exact h.o10
  · rw [g12, g10, g11]; exact h.o12
  · rw [g1, g5]; exact h.e0
  · rw [g5, g7]; exact h.e1
  · rw [g7, g10]; exact h.e2
  · rw [g10]; exact h.r
  · rw [g11, g12]; exact h.x
  · rw [g1, g5, g11]; exact h.d0
  · rw [g5, g7, g11]; exact h.d1
  · rw [g10, g11]; exact h.n
  · rw [g12]; exact h.s
/-- the empty row -/
theorem InS.row (h : InS V pe pre all b vE v1 A2 c2 A c X w) (h5 : b 5 = false) (h7 : b 7 = false) (h10 : b 10 = false) (h12 : b 12 = false) : InS V pe pre all (up b 1) (.slice (some ⟨w.heap.size, 0, none⟩) 0 0) v1 A2 c2 A c X (w.alloc (.cells #[] 3)) := by
  have hs : (w.alloc (.cells #[] 3)).heap.size = w.heap.size + 1 := World.size_alloc _ _
  have hb : Below w.heap.size w (w.alloc (.cells #[] 3)) := (Below.refl _ _).alloc (Nat.le_refl _) _
  have g : ∀ j, j ≠ 1 → up b 1 j = b j := fun j hj => up_ne hj
  constructor
  · exact h.bel.trans (hb.mono h.bel.size)
  · rw [g 7 (by decide), h7]; exact fun k => Bool.noConfusion k
  · rw [g 10 (by decide), h10]; exact fun k => Bool.noConfusion k
  · rw [g 12 (by decide), h12]; exact fun k => Bool.noConfusion k
  · exact fun _ _ => own_empty w h.bel.size _ _
  · rw [g 5 (by decide), h5]; exact fun k => Bool.noConfusion k
  · rw [g 7 (by decide), h7]; exact fun k => Bool.noConfusion k
  · rw [g 10 (by decide), h10]; exact fun k => Bool.noConfusion k
  · rw [g 11 (by decide), g 12 (by decide)]
    intro k
    obtain ⟨g1, g2, g3⟩ := h.x k
    exact ⟨g1, by omega, fun l => (g3 l).below hb⟩
  · rw [g 11 (by decide)]
    intro _ _ k
    have := (h.x k).2.1
    simp only [Value.ownBlock, ne_eq, Option.some.injEq]
    omega
  · rw [g 5 (by decide), h5]; exact fun k => Bool.noConfusion k
  · rw [g 10 (by decide), h10]; exact fun k => Bool.noConfusion k
  · rw [g 12 (by decide), h12]; exact fun k => Bool.noConfusion k
/-- the first append -/
theorem InS.app1 (h : InS V pe pre all b vE v1 A2 c2 A c X w) (h1 : b 1 = true) (h5 : b 5 = false) {v' : Value} (hown : w'.ownsRow V.heap.size 3 1 v' pre.length (iv pre)) (hg : w.grownBy w' vE.ownBlock) (ho : v'.ownBlock = vE.ownBlock ∨ v'.ownBlock = some w.heap.size) : InS V pe pre all (up b 5) vE v' A2 c2 A c X w' := by
  have g : ∀ j, j ≠ 5 → up b 5 j = b j := fun j hj => up_ne hj
  have h7 : b 7 = false := by
    cases hc : b 7 with
    | false => rfl
    | true => rw [h.o7 hc] at h5; cases h5
  have h10 : b 10 = false := by
    cases hc : b 10 with
    | false => rfl
    | true => rw [h.o10 hc] at h7; cases h7
  have h12 : b 12 = false := by
    cases hc : b 12 with
    | false => rfl
    | true => rw [(h.o12 hc).1] at h10; cases h10
  constructor
  · exact grown_below h.bel hg (own_ge (h.e0 h1 h5))
  · exact fun _ => up_self _ _
  · rw [g 10 (by decide), h10]; exact fun k => Bool.noConfusion k
  · rw [g 12 (by decide), h12]; exact fun k => Bool.noConfusion k
  · rw [up_self]; exact fun _ k => Bool.noConfusion k
  · exact fun _ _ => hown
  · rw [g 7 (by decide), h7]; exact fun k => Bool.noConfusion k
  · rw [g 10 (by decide), h10]; exact fun k => Bool.noConfusion k
  · rw [g 11 (by decide), g 12 (by decide)]
    intro k
    obtain ⟨g1, g2, g3⟩ := h.x k
    exact ⟨g1, Nat.lt_of_lt_of_le g2 hg.size, fun l => (hg.block X g2 (fun e => h.d0 h1 h5 k e.symm)).trans (g3 l)⟩
  · rw [up_self]; exact fun _ k => Bool.noConfusion k
  · rw [g 11 (by decide)]
    intro _ _ k
    rcases ho with ho | ho
    · rw [ho]; exact h.d0 h1 h5 k
    · rw [ho]
      have := (h.x k).2.1
      simp only [ne_eq, Option.some.injEq]
      omega
  · rw [g 10 (by decide), h10]; exact fun k => Bool.noConfusion k
  · rw [g 12 (by decide), h12]; exact fun k => Bool.noConfusion k
/-- the second append -/
theorem InS.app2 (h : InS V pe pre all b vE v1 A2 c2 A c X w) (h5 : b 5 = true) (h7 : b 7 = false) {A3 : Option Addr} {c3 : Nat} (hin : IntsIn w'.heap.size w' A3 all) (hc : all.length ≤ c3) (hg : w.grownBy w' v1.ownBlock) : InS V pe pre all (up b 7) vE v1 A3 c3 A c X w' := by
  have g : ∀ j, j ≠ 7 → up b 7 j = b j := fun j hj => up_ne hj
  have h10 : b 10 = false := by
    cases hc : b 10 with
    | false => rfl
    | true => rw [h.o10 hc] at h7; cases h7
  have h12 : b 12 = false := by
    cases hc : b 12 with
    | false => rfl
    | true => rw [(h.o12 hc).1] at h10; cases h10
  constructor
  · exact grown_below h.bel hg (own_ge (h.e1 h5 h7))
  · rw [g 5 (by decide)]; exact fun _ => h5
  · rw [g 10 (by decide), h10]; exact fun k => Bool.noConfusion k
  · rw [g 12 (by decide), h12]; exact fun k => Bool.noConfusion k
  · rw [g 5 (by decide), h5]; exact fun _ k => Bool.noConfusion k
  · rw [up_self]; exact fun _ k => Bool.noConfusion k
  · exact fun _ _ => ⟨hin, hc⟩
  · rw [g 10 (by decide), h10]; exact fun k => Bool.noConfusion k
  · rw [g 11 (by decide), g 12 (by decide)]
    intro k
    obtain ⟨g1, g2, g3⟩ := h.x k
    exact ⟨g1, Nat.lt_of_lt_of_le g2 hg.size, fun l => (hg.block X g2 (fun e => h.d1 h5 h7 k e.symm)).trans (g3 l)⟩
  · rw [g 5 (by decide), h5]; exact fun _ k => Bool.noConfusion k
  · rw [up_self]; exact fun _ k => Bool.noConfusion k
  · rw [g 10 (by decide), h10]; exact fun k => Bool.noConfusion k
  · rw [g 12 (by decide), h12]; exact fun k => Bool.noConfusion k
/-- the run -/
theorem InS.run (h : InS V pe pre all b vE v1 A2 c2 A c X w) (h7 : b 7 = true) (h10 : b 10 = false) (hb : Below w.heap.size w w') {A' : Option Addr} {c' : Nat} (hi : IntsIn w'.heap.size w' A' pe.out) (hlo : ∀ a, A' = some a → w.heap.size ≤ a.block) : InS V pe pre all (up b 10) vE v1 A2 c2 A' c' X w' := by
  have hs := hb.size
  have g : ∀ j, j ≠ 10 → up b 10 j = b j := fun j hj => up_ne hj
  have h5 := h.o7 h7
  have h12 : b 12 = false := by
    cases hc : b 12 with
    | false => rfl
    | true => rw [(h.o12 hc).1] at h10; cases h10
  constructor
  · exact h.bel.trans (hb.mono h.bel.size)
  · rw [g 7 (by decide), g 5 (by decide)]; exact h.o7
  · rw [g 7 (by decide)]; exact fun _ => h7
  · rw [g 12 (by decide), h12]; exact fun k => Bool.noConfusion k
  · rw [g 5 (by decide), h5]; exact fun _ k => Bool.noConfusion k
  · rw [g 7 (by decide), h7]; exact fun _ k => Bool.noConfusion k
  · rw [up_self]; exact fun _ k => Bool.noConfusion k
  · exact fun _ => hi
  · rw [g 11 (by decide), g 12 (by decide)]
    intro k
    obtain ⟨g1, g2, g3⟩ := h.x k
    exact ⟨g1, by omega, fun l => (g3 l).below hb⟩
  · rw [g 5 (by decide), h5]; exact fun _ k => Bool.noConfusion k
  · rw [g 7 (by decide), h7]; exact fun _ k => Bool.noConfusion k
  · rw [g 11 (by decide)]; exact fun _ k => off_run hlo (h.x k).2.1
  · rw [g 12 (by decide), h12]; exact fun k => Bool.noConfusion k
/-- the end's place -/
theorem InS.new (h : InS V pe pre all b vE v1 A2 c2 A c X w) (h11 : b 11 = false) : InS V pe pre all (up b 11) vE v1 A2 c2 A c w.heap.size (w.alloc (.cells #[.int .i64 0, .int .i64 0, .slice none 0 0, .int .i64 0] 31)) := by
  have hb : Below w.heap.size w (w.alloc (.cells #[.int .i64 0, .int .i64 0, .slice none 0 0, .int .i64 0] 31)) := (Below.refl _ _).alloc (Nat.le_refl _) _
  have hs : (w.alloc (.cells #[.int .i64 0, .int .i64 0, .slice none 0 0, .int .i64 0] 31)).heap.size = w.heap.size + 1 := World.size_alloc _ _
  have g : ∀ j, j ≠ 11 → up b 11 j = b j := fun j hj => up_ne hj
  have h12 : b 12 = false := by
    cases hc : b 12 with
    | false => rfl
    | true => rw [(h.o12 hc).2] at h11; cases h11
  constructor
  · exact h.bel.trans (hb.mono h.bel.size)
  · rw [g 7 (by decide), g 5 (by decide)]; exact h.o7
  · rw [g 10 (by decide), g 7 (by decide)]; exact h.o10
  · rw [g 12 (by decide), h12]; exact fun k => Bool.noConfusion k
  · rw [g 1 (by decide), g 5 (by decide)]; exact fun k l => World.ownsRow.alloc (h.e0 k l) _
  · rw [g 5 (by decide), g 7 (by decide)]; exact fun k l => World.ownsRow.alloc (h.e1 k l) _
  · rw [g 7 (by decide), g 10 (by decide)]; exact fun k l => ⟨((h.e2 k l).1.below hb).mono (by omega), (h.e2 k l).2⟩
  · rw [g 10 (by decide)]; exact fun k => ((h.r k).below hb).mono (by omega)
  · exact fun _ => ⟨h.bel.size, by omega, fun _ => Zero.new w⟩
  · rw [g 1 (by decide), g 5 (by decide)]
    exact fun k l _ e => absurd (own_lt_ (h.e0 k l) _ e) (Nat.lt_irrefl _)
  · rw [g 5 (by decide), g 7 (by decide)]
    exact fun k l _ e => absurd (own_lt_ (h.e1 k l) _ e) (Nat.lt_irrefl _)
  · rw [g 10 (by decide)]; exact fun k _ => off_new (h.r k) (Nat.le_refl _)
  · rw [g 12 (by decide), h12]; exact fun k => Bool.noConfusion k
/-- the end is laid -/
theorem InS.lay (h : InS V pe pre all b vE v1 A2 c2 A c X w) (h10 : b 10 = true) (h11 : b 11 = true) (h12 : b 12 = false) : InS V pe pre all (up b 12) vE v1 A2 c2 A c X (setE w X pe A c) := by
  obtain ⟨g1, g2, g3⟩ := h.x h11
  have hs := setE_size w X pe A c
  have g : ∀ j, j ≠ 12 → up b 12 j = b j := fun j hj => up_ne hj
  have h7 := h.o10 h10
  have h5 := h.o7 h7
  constructor
  · exact bel_setE h.bel g1 _ _ _
  · rw [g 7 (by decide), g 5 (by decide)]; exact h.o7
  · rw [g 10 (by decide), g 7 (by decide)]; exact h.o10
  · rw [g 10 (by decide), g 11 (by decide)]; exact fun _ => ⟨h10, h11⟩
  · rw [g 5 (by decide), h5]; exact fun _ k => Bool.noConfusion k
  · rw [g 7 (by decide), h7]; exact fun _ k => Bool.noConfusion k
  · rw [g 10 (by decide), h10]; exact fun _ k => Bool.noConfusion k
  · exact fun _ => hs ▸ ints_setE (h.r h10) (h.n h10 h11) _ _ _
  · exact fun _ => ⟨g1, by omega, fun k => by rw [up_self] at k; cases k⟩
  · rw [g 5 (by decide), h5]; exact fun _ k => Bool.noConfusion k
  · rw [g 7 (by decide), h7]; exact fun _ k => Bool.noConfusion k
  · exact fun _ _ => h.n h10 h11
  · exact fun _ => ⟨by omega, setE_self (g3 h12) _ _ _⟩
theorem InS.ends (h : InS V pe pre all b vE v1 A2 c2 A c X w) (h10 : b 10 = true) (h12 : b 12 = true) : Below V.heap.size V w ∧ EndAt w X pe :=
  ⟨h.bel, ⟨A, c, (h.s h12).2, h.r h10⟩⟩
end
end Go.Proofs.YtnolhcdfknjncaaDoor

/-
  CevalInput: its second run, and what stands behind it.
-/
set_option linter.unusedVariables false
set_option linter.unusedSimpArgs false
namespace Go.Proofs.YtnolhcdfknjncaaDoor
open Go.RowKit

noncomputable def inputR6 : Code := match Tryd.f6.body with
  | some (.seq _ (.seq _ (.seq _ (.seq _ (.seq c _))))) => c
  | _ => .skip
noncomputable def inputR7 : Code := match Tryd.f6.body with
  | some (.seq _ (.seq _ (.seq _ (.seq _ (.seq _ (.seq c _)))))) => c
  | _ => .skip
noncomputable def inputT7 : Code := match Tryd.f6.body with
  | some (.seq _ (.seq _ (.seq _ (.seq _ (.seq _ c))))) => c
  | _ => .skip
noncomputable def inputT8 : Code := match Tryd.f6.body with
  | some (.seq _ (.seq _ (.seq _ (.seq _ (.seq _ (.seq _ c)))))) => c
  | _ => .skip
set_option maxRecDepth 100000 in
set_option maxHeartbeats 8000000 in
theorem input_tail8 {W V : World} (hb : Below W.heap.size W V) (hr : Ready V) {X7 X8 : Nat} {pa : PEnd} (ha : EndAt V X7 pa) (hb2 : EndAt V X8 pa) (u0 u1 u2 u3 u4 u5 u6 u7 u8 u9 u12 u13 u14 u15 u16 u17 u18 u19 u20 u21 u22 u23 u24 u25 u26 u27 u28 u29 u30 u31 u32 u33 u34 u35 u36 u37 u38 u39 u40 u41 u42 u43 u44 u45 u46 u47 u48 u49 u50 u51 u52 u53 u54 u55 u56 u57 u58 u59 u60 u61 u62 : Value) :
    inputT8.wp Tryd.prog (bodyPost Tryd.prog Tryd.f6 (BoolBelow true W)) { tmps := #[u0, u1, u2, u3, u4, u5, u6, u7, u8, u9, .pointer (some ⟨X7, 0, none⟩), .pointer (some ⟨X8, 0, none⟩), u12, u13, u14, u15, u16, u17, u18, u19, u20, u21, u22, u23, u24, u25, u26, u27, u28, u29, u30, u31, u32, u33, u34, u35, u36, u37, u38, u39, u40, u41, u42, u43, u44, u45, u46, u47, u48, u49, u50, u51, u52, u53, u54, u55, u56, u57, u58, u59, u60, u61, u62], defers := [] } V := by
  obtain ⟨A, c, a0, a1, a2, a3, hia⟩ := endAt_cells ha
  obtain ⟨B, d, b0, b1, b2, b3, hib⟩ := endAt_cells hb2
  have HS1 := Lib.hid (same_any (v := .agg #[.int .i64 pa.kind, .int .i64 pa.n, .slice A pa.out.length c, .int .i64 pa.steps]) (u := .agg #[.int .i64 pa.kind, .int .i64 pa.n, .slice B pa.out.length d, .int .i64 pa.steps]) V ⟨A, c, rfl, hia⟩ ⟨B, d, rfl, hib⟩)
  have h1 : sameE pa pa = true := by simp [sameE]
  rw [h1] at HS1
  have HK := Lib.hid (fun (V2 : World) (h : Below V.heap.size V V2) => knows_any V2 (hr.below h))
  have HB := Lib.hid hb
  have HC := Lib.hid (fun (V2 : World) (h : Below V.heap.size V V2) => (show V2.cell? ⟨X7, 3, none⟩ = some (.int .i64 pa.steps) ∧ V2.cell? ⟨X8, 3, none⟩ = some (.int .i64 pa.steps) from
    ⟨cell_behind h a3, cell_behind h b3⟩))
  have hst3 : ((pa.steps : Int) == (pa.steps : Int)) = true := by simp
  clear h1 hia hib hb hr ha hb2
  obtain ⟨Q, hQ⟩ : ∃ Q, (bodyPost Tryd.prog Tryd.f6 (BoolBelow true W)) = Q := ⟨_, rfl⟩
  have HQ := Lib.hid hQ
  rw [hQ]
  clear hQ
  unfold inputT8 Tryd.f6
  dsimp only
  go_wp2_with (first
    | (go_at_call 12; refine HS1.out.mono ?_; rintro en V2 ⟨rfl, hv2⟩; obtain ⟨q3, q4⟩ := HC.out _ hv2)
    | (go_at_call 8; refine (HK.out _ hv2).mono ?_; rintro en V4 ⟨rfl, hv4⟩))
  rw [← HQ.out]
  go_ret
  have h1 := HB.out.trans (hv2.mono HB.out.size)
  exact ⟨rfl, h1.trans (hv4.mono h1.size)⟩
open Go.Proofs.YtnolhcdfknjncaaDoorW.PrintWords Go.Proofs.YtnolhcdfknjncaaDoorW.PrintLast
section
variable {V w : World} {pe : PEnd} {pre all : List Int} {b : Nat → Bool} {vE v1 : Value} {A2 A : Option Addr} {c2 c X : Nat}
theorem h7f (h : InS V pe pre all b vE v1 A2 c2 A c X w) (h5 : b 5 = false) : b 7 = false := by
  cases hc : b 7 with
  | false => rfl
  | true => rw [h.o7 hc] at h5; cases h5
theorem h10f (h : InS V pe pre all b vE v1 A2 c2 A c X w) (h5 : b 5 = false) : b 10 = false := by
  cases hc : b 10 with
  | false => rfl
  | true => have := h7f h h5; rw [h.o10 hc] at this; cases this
theorem h12f (h : InS V pe pre all b vE v1 A2 c2 A c X w) (h5 : b 5 = false) : b 12 = false := by
  cases hc : b 12 with
  | false => rfl
  | true => have := h10f h h5; rw [(h.o12 hc).1] at this; cases this
end
set_option maxRecDepth 100000 in
set_option maxHeartbeats 16000000 in
theorem input_run7 {W V : World} (hb : Below W.heap.size W V) (hr : Ready V) {X3 X7 L ci p2 p3 e2 e3 n m cm : Nat} {Ai Am P2 P3 : Option Addr} {p0 p1 f sf : Int} {pa pe : PEnd} {pre more all : List Int} (hal : pre ++ more = all) (hnp : pre.length = n) (hlm : more.length = m) (hn : n ≤ 60) (hm : m ≤ 60) (hnc : n ≤ ci) (hpp : pa = pe) (ha : EndAt V X7 pa)
    (hS : ∀ V2, Below V.heap.size V V2 → V2.cell? ⟨X3, 0, none⟩ = some (.int .i64 p0) ∧ V2.cell? ⟨X3, 1, none⟩ = some (.int .i64 p1) ∧ V2.cell? ⟨X3, 2, none⟩ = some (.slice P2 p2 e2) ∧ V2.cell? ⟨X3, 3, none⟩ = some (.slice P3 p3 e3))
    (hsh : ∀ V2, Calls Tryd.prog 10 #[.int .i64 f] V2 fun e w' => e = .returned (.int .i64 sf) ∧ V2 = w')
    (hpre : ∀ V2, Below V.heap.size V V2 → RowOf V2 Ai (iv pre)) (hmore : ∀ V2, Below V.heap.size V V2 → RowOf V2 Am (iv more))
    (hrb : ∀ V2 A2 c2, Below V.heap.size V V2 → IntsIn V2.heap.size V2 A2 all → all.length ≤ c2 → Calls Tryd.prog 9 #[.agg #[.int .i64 p0, .int .i64 p1, .slice P2 p2 e2, .slice P3 p3 e3], .slice A2 all.length c2, .int .i64 sf] V2 (RunPost pe V2)) (u0 u5 u6 u7 u8 u11 u12 u13 u14 u15 u16 u17 u18 u19 u20 u21 u22 u23 u24 u25 u26 u27 u28 u29 u30 u31 u32 u33 u34 u35 u36 u37 u38 u39 u40 u41 u42 u43 u44 u45 u46 u47 u48 u49 u50 u51 u52 u53 u54 u55 u56 u57 u58 u59 u60 u61 u62 : Value) :
    ∀ K : Act → World → Prop, (∀ a w, inputT8.wp Tryd.prog (bodyPost Tryd.prog Tryd.f6 (BoolBelow true W)) a w → K a w) → inputR7.wp Tryd.prog (Exit.then K (bodyPost Tryd.prog Tryd.f6 (BoolBelow true W))) { tmps := #[u0, .slice Ai L ci, .slice Am m cm, .int .i64 f, .pointer (some ⟨X3, 0, none⟩), u5, u6, u7, u8, .int .i64 (n : Int), .pointer (some ⟨X7, 0, none⟩), u11, u12, u13, u14, u15, u16, u17, u18, u19, u20, u21, u22, u23, u24, u25, u26, u27, u28, u29, u30, u31, u32, u33, u34, u35, u36, u37, u38, u39, u40, u41, u42, u43, u44, u45, u46, u47, u48, u49, u50, u51, u52, u53, u54, u55, u56, u57, u58, u59, u60, u61, u62], defers := [] } V := by
  intro K hK0
  have HK0 := Lib.hid hK0
  clear hK0
  have hal2 : all.length = n + m := by rw [← hal]; simp [hnp, hlm]
  have hal8 : all.length * 8 ≤ 140737488351232 := by omega
  have hl1 : (iv pre).length = n * 1 := by simp [iv, hnp]
  have hl2 : (iv more).length = m * 1 := by simp [iv, hlm]
  obtain ⟨inf0, hinf, hz0, hz1, hz2⟩ := info_parts Tryd.info3
  have HEND := Lib.hid (fun (V2 : World) (X8 : Nat) (hv : Below V.heap.size V V2) (he : EndAt V2 X8 pe) (y0 y1 y2 y3 y4 y5 y6 y7 y8 y9 y12 y13 y14 y15 y16 y17 y18 y19 y20 y21 y22 y23 y24 y25 y26 y27 y28 y29 y30 y31 y32 y33 y34 y35 y36 y37 y38 y39 y40 y41 y42 y43 y44 y45 y46 y47 y48 y49 y50 y51 y52 y53 y54 y55 y56 y57 y58 y59 y60 y61 y62 : Value) =>
    (show inputT8.wp Tryd.prog (bodyPost Tryd.prog Tryd.f6 (BoolBelow true W)) { tmps := #[y0, y1, y2, y3, y4, y5, y6, y7, y8, y9, .pointer (some ⟨X7, 0, none⟩), .pointer (some ⟨X8, 0, none⟩), y12, y13, y14, y15, y16, y17, y18, y19, y20, y21, y22, y23, y24, y25, y26, y27, y28, y29, y30, y31, y32, y33, y34, y35, y36, y37, y38, y39, y40, y41, y42, y43, y44, y45, y46, y47, y48, y49, y50, y51, y52, y53, y54, y55, y56, y57, y58, y59, y60, y61, y62], defers := [] } V2 from
      input_tail8 (hb.trans (hv.mono hb.size)) (hr.below hv) (ha.below hv) (hpp ▸ he) _ _ _ _ _ _ _ _ _ _ _ _ _ _ _ _ _ _ _ _ _ _ _ _ _ _ _ _ _ _ _ _ _ _ _ _ _ _ _ _ _ _ _ _ _ _ _ _ _ _ _ _ _ _ _ _ _ _ _ _ _))
  have HS := Lib.hid (fun (V2 : World) (h : Below V.heap.size V V2) => hS V2 h)
  have HSH := Lib.hid hsh
  have HRB := Lib.hid hrb
  have HPRE := Lib.hid hpre
  have HMORE := Lib.hid hmore
  have D0 := Lib.hid (show Below V.heap.size V V.drew from (Below.refl _ _).drew)
  have hn0 : (0 : Int) ≤ (n : Int) := by omega
  have hnc2 : (n : Int) ≤ (ci : Int) := by omega
  clear hS hrb hb hr hsh hpp ha hpre hmore
  unfold inputR7 Tryd.f6
  dsimp only
  refine start_ (n := 13) (S := fun w' => True) (ds := []) #[false, false, false, false, false, false, false, false, false, false, false, false, false] (by kernel_rfl) rfl rfl trivial (fun hHeld => ?_)
  clear hHeld
  refine inv_at (B := [0, 0, 0, 0, 12, 18, 0, 96, 0, 256, 641, 0, 3072]) [0, 1, 2, 3, 4, 5, 6, 7, 8, 9, 10, 11, 12] (fun a0_ b a w' => ∃ vE v1 A2 c2 A c X, a = putSel a0_ b [(0, 39, .agg #[.int .i64 p0, .int .i64 p1, .slice P2 p2 e2, .slice P3 p3 e3]), (1, 40, vE), (2, 41, .slice Ai L ci), (3, 42, .int .i64 (n : Int)), (4, 43, .slice Ai n ci), (5, 44, v1), (6, 45, .slice Am m cm), (7, 46, .slice A2 all.length c2), (8, 47, .int .i64 f), (9, 48, .int .i64 sf), (10, 49, .agg #[.int .i64 pe.kind, .int .i64 pe.n, .slice A pe.out.length c, .int .i64 pe.steps]), (11, 11, .pointer (some ⟨X, 0, none⟩))] ∧ InS V pe pre all b vE v1 A2 c2 A c X w') rfl (by kernel_rfl) (by kernel_rfl) (by kernel_rfl) ?_ ?_ ?_
  · exact ⟨.bool false, .bool false, none, 0, none, 0, 0, by simp only [putSel, Bool.false_eq_true, if_false], InS.start D0.out⟩
  · skip
    refine steps_cons ?_ ?_
    · rintro b a w' ⟨vE, v1, A2, c2, A, c, X, ha, hI⟩ hb_ hon hoff
      refine ⟨_, rfl, fun K hK => ?_⟩
      have m4 : a.tmps[4]? = some (.pointer (some ⟨X3, 0, none⟩)) := by rw [ha]; exact (putSel_off rfl).trans rfl
      obtain ⟨z0, z1, z2, z3⟩ := HS.out w' hI.bel
      replace ha := Lib.hid ha
      have HI := Lib.hid hI
      clear hI
      refine value_ (w1 := w') (v := .agg #[.int .i64 p0, .int .i64 p1, .slice P2 p2 e2, .slice P3 p3 e3]) (by rfl) rfl ?_ ?_
      · go_simp
        try rfl
      exact hK.out _ _ ⟨vE, v1, A2, c2, A, c, X, (by rw [ha.out]; exact putSel_upk 0 hb_ rfl rfl rfl), HI.out.pass (by omega)⟩
    refine steps_cons ?_ ?_
    · rintro b a w' ⟨vE, v1, A2, c2, A, c, X, ha, hI⟩ hb_ hon hoff
      refine ⟨_, rfl, fun K hK => ?_⟩
      replace ha := Lib.hid ha
      have HI := Lib.hid hI
      clear hI
      refine value_ (w1 := w'.alloc (.cells #[] 3)) (v := .slice (some ⟨w'.heap.size, 0, none⟩) 0 0) (by rfl) rfl ?_ ?_
      · go_simp
        try rfl
      exact hK.out _ _ ⟨.slice (some ⟨w'.heap.size, 0, none⟩) 0 0, v1, A2, c2, A, c, X, (by rw [ha.out]; exact putSel_upk 1 hb_ rfl rfl rfl), HI.out.row (hoff 5 (by kernel_rfl)) (h7f HI.out (hoff 5 (by kernel_rfl))) (h10f HI.out (hoff 5 (by kernel_rfl))) (h12f HI.out (hoff 5 (by kernel_rfl)))⟩
    refine steps_cons ?_ ?_
    · rintro b a w' ⟨vE, v1, A2, c2, A, c, X, ha, hI⟩ hb_ hon hoff
      refine ⟨_, rfl, fun K hK => ?_⟩
      have m1 : a.tmps[1]? = some (.slice Ai L ci) := by rw [ha]; exact (putSel_off rfl).trans rfl
      replace ha := Lib.hid ha
      have HI := Lib.hid hI
      clear hI
      refine value_ (w1 := w') (v := .slice Ai L ci) (by rfl) rfl ?_ ?_
      · go_simp
        try rfl
      exact hK.out _ _ ⟨vE, v1, A2, c2, A, c, X, (by rw [ha.out]; exact putSel_upk 2 hb_ rfl rfl rfl), HI.out.pass (by omega)⟩
    refine steps_cons ?_ ?_
    · rintro b a w' ⟨vE, v1, A2, c2, A, c, X, ha, hI⟩ hb_ hon hoff
      refine ⟨_, rfl, fun K hK => ?_⟩
      have m9 : a.tmps[9]? = some (.int .i64 (n : Int)) := by rw [ha]; exact (putSel_off rfl).trans rfl
      replace ha := Lib.hid ha
      have HI := Lib.hid hI
      clear hI
      refine value_ (w1 := w') (v := .int .i64 (n : Int)) (by rfl) rfl ?_ ?_
      · go_simp
        try rfl
      exact hK.out _ _ ⟨vE, v1, A2, c2, A, c, X, (by rw [ha.out]; exact putSel_upk 3 hb_ rfl rfl rfl), HI.out.pass (by omega)⟩
    refine steps_cons ?_ ?_
    · rintro b a w' ⟨vE, v1, A2, c2, A, c, X, ha, hI⟩ hb_ hon hoff
      refine ⟨_, rfl, fun K hK => ?_⟩
      have e41 : a.tmps[41]? = some (.slice Ai L ci) := by rw [ha]; exact putSel_on (e := (2, 41, .slice Ai L ci)) 2 rfl rfl (hon 2 (by kernel_rfl)) rfl
      have e42 : a.tmps[42]? = some (.int .i64 (n : Int)) := by rw [ha]; exact putSel_on (e := (3, 42, .int .i64 (n : Int))) 3 rfl rfl (hon 3 (by kernel_rfl)) rfl
      replace ha := Lib.hid ha
      have HI := Lib.hid hI
      clear hI
      refine value_ (w1 := w') (v := .slice Ai n ci) (by rfl) rfl ?_ ?_
      · go_simp
        try rfl
      exact hK.out _ _ ⟨vE, v1, A2, c2, A, c, X, (by rw [ha.out]; exact putSel_upk 4 hb_ rfl rfl rfl), HI.out.pass (by omega)⟩
    refine steps_cons ?_ ?_
    · rintro b a w' ⟨vE, v1, A2, c2, A, c, X, ha, hI⟩ hb_ hon hoff
      refine ⟨_, rfl, fun K hK => ?_⟩
      have e40 : a.tmps[40]? = some (vE) := by rw [ha]; exact putSel_on (e := (1, 40, vE)) 1 rfl rfl (hon 1 (by kernel_rfl)) rfl
      have e43 : a.tmps[43]? = some (.slice Ai n ci) := by rw [ha]; exact putSel_on (e := (4, 43, .slice Ai n ci)) 4 rfl rfl (hon 4 (by kernel_rfl)) rfl
      replace ha := Lib.hid ha
      have HI := Lib.hid hI
      clear hI
      rw [if_pos (by rfl)]
      refine wp_append_row _ _ _ 23 rfl V.heap.size 3 inf0 _ 1 8 Tryd.underlying23 hinf hz0 hz1 hz2 rfl (by decide) _ 0 [] (by first | (simp only [Act.eval, Array.getD_eq_getD_getElem?, Option.getD_some, e40]; done) | (simp only [Act.eval, Array.getD_eq_getD_getElem?, Option.getD_some, e40]; rfl)) (HI.out.e0 (hon 1 (by kernel_rfl)) hb_) Ai n ci (iv pre) (by first | (simp only [Act.eval, Array.getD_eq_getD_getElem?, Option.getD_some, e43]; done) | (simp only [Act.eval, Array.getD_eq_getD_getElem?, Option.getD_some, e43]; rfl)) hl1 (HPRE.out _ HI.out.bel) (iv_one _) (by simp only [maxLen]; omega) (by omega) HI.out.bel.size ?_
      intro v' w2 hown hgr hat
      have hown' := own_size (show pre.length = 0 + n by omega) hown
      exact hK.out _ _ ⟨vE, v', A2, c2, A, c, X, (by rw [ha.out]; exact putSel_upk 5 hb_ rfl rfl rfl), HI.out.app1 (hon 1 (by kernel_rfl)) hb_ hown' hgr hat⟩
    refine steps_cons ?_ ?_
    · rintro b a w' ⟨vE, v1, A2, c2, A, c, X, ha, hI⟩ hb_ hon hoff
      refine ⟨_, rfl, fun K hK => ?_⟩
      have m2 : a.tmps[2]? = some (.slice Am m cm) := by rw [ha]; exact (putSel_off rfl).trans rfl
      replace ha := Lib.hid ha
      have HI := Lib.hid hI
      clear hI
      refine value_ (w1 := w') (v := .slice Am m cm) (by rfl) rfl ?_ ?_
      · go_simp
        try rfl
      exact hK.out _ _ ⟨vE, v1, A2, c2, A, c, X, (by rw [ha.out]; exact putSel_upk 6 hb_ rfl rfl rfl), HI.out.pass (by omega)⟩
    refine steps_cons ?_ ?_
    · rintro b a w' ⟨vE, v1, A2, c2, A, c, X, ha, hI⟩ hb_ hon hoff
      refine ⟨_, rfl, fun K hK => ?_⟩
      have e44 : a.tmps[44]? = some (v1) := by rw [ha]; exact putSel_on (e := (5, 44, v1)) 5 rfl rfl (hon 5 (by kernel_rfl)) rfl
      have e45 : a.tmps[45]? = some (.slice Am m cm) := by rw [ha]; exact putSel_on (e := (6, 45, .slice Am m cm)) 6 rfl rfl (hon 6 (by kernel_rfl)) rfl
      replace ha := Lib.hid ha
      have HI := Lib.hid hI
      clear hI
      rw [if_pos (by rfl)]
      refine wp_append_row _ _ _ 23 rfl V.heap.size 3 inf0 _ 1 8 Tryd.underlying23 hinf hz0 hz1 hz2 rfl (by decide) _ pre.length (iv pre) (by first | (simp only [Act.eval, Array.getD_eq_getD_getElem?, Option.getD_some, e44]; done) | (simp only [Act.eval, Array.getD_eq_getD_getElem?, Option.getD_some, e44]; rfl)) (HI.out.e1 (hon 5 (by kernel_rfl)) hb_) Am m cm (iv more) (by first | (simp only [Act.eval, Array.getD_eq_getD_getElem?, Option.getD_some, e45]; done) | (simp only [Act.eval, Array.getD_eq_getD_getElem?, Option.getD_some, e45]; rfl)) hl2 (HMORE.out _ HI.out.bel) (iv_one _) (by simp only [maxLen]; omega) (by omega) HI.out.bel.size ?_
      intro v' w2 hown hgr hat
      have hown' : w2.ownsRow V.heap.size 3 1 v' all.length (iv all) := by rw [← hal]; simpa [iv, hlm] using hown
      obtain ⟨A3, c3, rfl, hc3, hi3⟩ := own_intsJ hal8 hown'
      exact hK.out _ _ ⟨vE, v1, A3, c3, A, c, X, (by rw [ha.out]; exact putSel_upk 7 hb_ rfl rfl rfl), HI.out.app2 (hon 5 (by kernel_rfl)) hb_ hi3 hc3 hgr⟩
    refine steps_cons ?_ ?_
    · rintro b a w' ⟨vE, v1, A2, c2, A, c, X, ha, hI⟩ hb_ hon hoff
      refine ⟨_, rfl, fun K hK => ?_⟩
      have m3 : a.tmps[3]? = some (.int .i64 f) := by rw [ha]; exact (putSel_off rfl).trans rfl
      replace ha := Lib.hid ha
      have HI := Lib.hid hI
      clear hI
      refine value_ (w1 := w') (v := .int .i64 f) (by rfl) rfl ?_ ?_
      · go_simp
        try rfl
      exact hK.out _ _ ⟨vE, v1, A2, c2, A, c, X, (by rw [ha.out]; exact putSel_upk 8 hb_ rfl rfl rfl), HI.out.pass (by omega)⟩
    refine steps_cons ?_ ?_
    · rintro b a w' ⟨vE, v1, A2, c2, A, c, X, ha, hI⟩ hb_ hon hoff
      refine ⟨_, rfl, fun K hK => ?_⟩
      have e47 : a.tmps[47]? = some (.int .i64 f) := by rw [ha]; exact putSel_on (e := (8, 47, .int .i64 f)) 8 rfl rfl (hon 8 (by kernel_rfl)) rfl
      replace ha := Lib.hid ha
      have HI := Lib.hid hI
      clear hI
      refine goes_ Tryd.func10 (by kernel_rfl) rfl #[.int .i64 f] (by rfl) rfl rfl (by first | (simp only [List.map_toArray, List.map_cons, List.map_nil, Act.eval, Array.getD_eq_getD_getElem?, Option.getD_some, e47]; done) | (simp only [List.map_toArray, List.map_cons, List.map_nil, Act.eval, Array.getD_eq_getD_getElem?, Option.getD_some, e47]; rfl)) ?_
      refine (HSH.out w').mono ?_
      rintro e w2 ⟨rfl, rfl⟩
      exact ⟨_, rfl, hK.out _ _ ⟨vE, v1, A2, c2, A, c, X, (by rw [ha.out]; exact putSel_upk 9 hb_ rfl rfl rfl), HI.out.pass (by omega)⟩⟩
    refine steps_cons ?_ ?_
    · rintro b a w' ⟨vE, v1, A2, c2, A, c, X, ha, hI⟩ hb_ hon hoff
      refine ⟨_, rfl, fun K hK => ?_⟩
      have e39 : a.tmps[39]? = some (.agg #[.int .i64 p0, .int .i64 p1, .slice P2 p2 e2, .slice P3 p3 e3]) := by rw [ha]; exact putSel_on (e := (0, 39, .agg #[.int .i64 p0, .int .i64 p1, .slice P2 p2 e2, .slice P3 p3 e3])) 0 rfl rfl (hon 0 (by kernel_rfl)) rfl
      have e46 : a.tmps[46]? = some (.slice A2 all.length c2) := by rw [ha]; exact putSel_on (e := (7, 46, .slice A2 all.length c2)) 7 rfl rfl (hon 7 (by kernel_rfl)) rfl
      have e48 : a.tmps[48]? = some (.int .i64 sf) := by rw [ha]; exact putSel_on (e := (9, 48, .int .i64 sf)) 9 rfl rfl (hon 9 (by kernel_rfl)) rfl
      replace ha := Lib.hid ha
      have HI := Lib.hid hI
      clear hI
      obtain ⟨hi2, hc2⟩ := HI.out.e2 (hon 7 (by kernel_rfl)) hb_
      refine goes_ Tryd.func9 (by kernel_rfl) rfl #[.agg #[.int .i64 p0, .int .i64 p1, .slice P2 p2 e2, .slice P3 p3 e3], .slice A2 all.length c2, .int .i64 sf] (by rfl) rfl rfl (by first | (simp only [List.map_toArray, List.map_cons, List.map_nil, Act.eval, Array.getD_eq_getD_getElem?, Option.getD_some, e39, e46, e48]; done) | (simp only [List.map_toArray, List.map_cons, List.map_nil, Act.eval, Array.getD_eq_getD_getElem?, Option.getD_some, e39, e46, e48]; rfl)) ?_
      refine (HRB.out w' A2 c2 HI.out.bel hi2 hc2).mono ?_
      rintro e w2 ⟨v, A', c', rfl, rfl, hE, hb2, hlo⟩
      obtain ⟨A'', c'', heq, hi⟩ := hE
      simp only [Value.agg.injEq, Array.mk.injEq, List.cons.injEq, Value.slice.injEq, true_and, and_true] at heq
      obtain ⟨rfl, rfl⟩ := heq
      exact ⟨_, rfl, hK.out _ _ ⟨vE, v1, A2, c2, A', c', X, (by rw [ha.out]; exact putSel_upk 10 hb_ rfl rfl rfl), HI.out.run (hon 7 (by kernel_rfl)) hb_ hb2 hi hlo⟩⟩
    refine steps_cons ?_ ?_
    · rintro b a w' ⟨vE, v1, A2, c2, A, c, X, ha, hI⟩ hb_ hon hoff
      refine ⟨_, rfl, fun K hK => ?_⟩
      replace ha := Lib.hid ha
      have HI := Lib.hid hI
      clear hI
      refine value_ (w1 := w'.alloc (.cells #[.int .i64 0, .int .i64 0, .slice none 0 0, .int .i64 0] 31)) (v := .pointer (some ⟨w'.heap.size, 0, none⟩)) (by rfl) rfl ?_ ?_
      · go_simp
        try rfl
      exact hK.out _ _ ⟨vE, v1, A2, c2, A, c, w'.heap.size, (by rw [ha.out]; exact putSel_upk 11 hb_ rfl rfl rfl), HI.out.new hb_⟩
    refine steps_cons ?_ ?_
    · rintro b a w' ⟨vE, v1, A2, c2, A, c, X, ha, hI⟩ hb_ hon hoff
      refine ⟨_, rfl, fun K hK => ?_⟩
      have e49 : a.tmps[49]? = some (.agg #[.int .i64 pe.kind, .int .i64 pe.n, .slice A pe.out.length c, .int .i64 pe.steps]) := by rw [ha]; exact putSel_on (e := (10, 49, .agg #[.int .i64 pe.kind, .int .i64 pe.n, .slice A pe.out.length c, .int .i64 pe.steps])) 10 rfl rfl (hon 10 (by kernel_rfl)) rfl
      have e11 : a.tmps[11]? = some (.pointer (some ⟨X, 0, none⟩)) := by rw [ha]; exact putSel_on (e := (11, 11, .pointer (some ⟨X, 0, none⟩))) 11 rfl rfl (hon 11 (by kernel_rfl)) rfl
      obtain ⟨y0, y1, y2, y3, y4⟩ := ((hI.x (hon 11 (by kernel_rfl))).2.2 hb_).cells
      replace ha := Lib.hid ha
      have HI := Lib.hid hI
      clear hI
      refine skip_ (w1 := setE w' X pe A c) (by rfl) rfl ?_ ?_
      · unfold setE
        go_simp
        try rfl
      exact hK.out _ _ ⟨vE, v1, A2, c2, A, c, X, (by rw [ha.out]; exact (putSel_skip rfl).symm), HI.out.lay (hon 10 (by kernel_rfl)) (hon 11 (by kernel_rfl)) hb_⟩
    exact steps_nil
  rintro b a w' hall ⟨vE, v1, A2, c2, A, c, X, ha, hI⟩
  have hl : ∀ j, j ≤ 12 → b j = true := fun j hj => hall j (by
    have : j = 0 ∨ j = 1 ∨ j = 2 ∨ j = 3 ∨ j = 4 ∨ j = 5 ∨ j = 6 ∨ j = 7 ∨ j = 8 ∨ j = 9 ∨ j = 10 ∨ j = 11 ∨ j = 12 := by omega
    rcases this with rfl | rfl | rfl | rfl | rfl | rfl | rfl | rfl | rfl | rfl | rfl | rfl | rfl <;> rfl)
  have b0 := hl 0 (by decide)
  have b1 := hl 1 (by decide)
  have b2 := hl 2 (by decide)
  have b3 := hl 3 (by decide)
  have b4 := hl 4 (by decide)
  have b5 := hl 5 (by decide)
  have b6 := hl 6 (by decide)
  have b7 := hl 7 (by decide)
  have b8 := hl 8 (by decide)
  have b9 := hl 9 (by decide)
  have b10 := hl 10 (by decide)
  have b11 := hl 11 (by decide)
  obtain ⟨g1, g2⟩ := hI.ends b10 (hl 12 (by decide))
  subst ha
  simp only [putSel, b0, b1, b2, b3, b4, b5, b6, b7, b8, b9, b10, b11, if_true, Act.put, List.setIfInBounds_toArray, List.set_cons_zero, List.set_cons_succ, Exit.then]
  exact HK0.out _ _ (HEND.out _ _ g1 g2 _ _ _ _ _ _ _ _ _ _ _ _ _ _ _ _ _ _ _ _ _ _ _ _ _ _ _ _ _ _ _ _ _ _ _ _ _ _ _ _ _ _ _ _ _ _ _ _ _ _ _ _ _ _ _ _ _ _ _ _ _)
end Go.Proofs.YtnolhcdfknjncaaDoor

/-
  CevalInput: its first run.
-/
set_option linter.unusedVariables false
set_option linter.unusedSimpArgs false
namespace Go.Proofs.YtnolhcdfknjncaaDoor
open Go.RowKit

noncomputable def inputT6 : Code := match Tryd.f6.body with
  | some (.seq _ (.seq _ (.seq _ (.seq _ c)))) => c
  | _ => .skip
set_option maxRecDepth 100000 in
set_option maxHeartbeats 8000000 in
theorem input_tail6 {W V : World} (hb : Below W.heap.size W V) (hr : Ready V) {X3 L ci p2 p3 e2 e3 n m cm : Nat} {Ai Am P2 P3 : Option Addr} {p0 p1 f sf : Int} {pa pe : PEnd} {pre more all : List Int} (hal : pre ++ more = all) (hnp : pre.length = n) (hlm : more.length = m) (hn : n ≤ 60) (hm : m ≤ 60) (hnc : n ≤ ci) (hpp : pa = pe)
    (hS : ∀ V2, Below V.heap.size V V2 → V2.cell? ⟨X3, 0, none⟩ = some (.int .i64 p0) ∧ V2.cell? ⟨X3, 1, none⟩ = some (.int .i64 p1) ∧ V2.cell? ⟨X3, 2, none⟩ = some (.slice P2 p2 e2) ∧ V2.cell? ⟨X3, 3, none⟩ = some (.slice P3 p3 e3))
    (hsh : ∀ V2, Calls Tryd.prog 10 #[.int .i64 f] V2 fun e w' => e = .returned (.int .i64 sf) ∧ V2 = w')
    (hpre : ∀ V2, Below V.heap.size V V2 → RowOf V2 Ai (iv pre)) (hmore : ∀ V2, Below V.heap.size V V2 → RowOf V2 Am (iv more))
    (hra : ∀ V2, Below V.heap.size V V2 → Calls Tryd.prog 9 #[.agg #[.int .i64 p0, .int .i64 p1, .slice P2 p2 e2, .slice P3 p3 e3], .slice Ai n ci, .int .i64 sf] V2 (RunPost pa V2))
    (hrb : ∀ V2 A2 c2, Below V.heap.size V V2 → IntsIn V2.heap.size V2 A2 all → all.length ≤ c2 → Calls Tryd.prog 9 #[.agg #[.int .i64 p0, .int .i64 p1, .slice P2 p2 e2, .slice P3 p3 e3], .slice A2 all.length c2, .int .i64 sf] V2 (RunPost pe V2)) (u0 u5 u6 u7 u8 u10 u11 u12 u13 u14 u15 u16 u17 u18 u19 u20 u21 u22 u23 u24 u25 u26 u27 u28 u29 u30 u31 u32 u33 u34 u35 u36 u37 u38 u39 u40 u41 u42 u43 u44 u45 u46 u47 u48 u49 u50 u51 u52 u53 u54 u55 u56 u57 u58 u59 u60 u61 u62 : Value) :
    inputT6.wp Tryd.prog (bodyPost Tryd.prog Tryd.f6 (BoolBelow true W)) { tmps := #[u0, .slice Ai L ci, .slice Am m cm, .int .i64 f, .pointer (some ⟨X3, 0, none⟩), u5, u6, u7, u8, .int .i64 (n : Int), u10, u11, u12, u13, u14, u15, u16, u17, u18, u19, u20, u21, u22, u23, u24, u25, u26, u27, u28, u29, u30, u31, u32, u33, u34, u35, u36, u37, u38, u39, u40, u41, u42, u43, u44, u45, u46, u47, u48, u49, u50, u51, u52, u53, u54, u55, u56, u57, u58, u59, u60, u61, u62], defers := [] } V := by
  have hend : ∀ (V2 : World) (X7 : Nat), Below V.heap.size V V2 → EndAt V2 X7 pa → ∀ (y0 y5 y6 y7 y8 y11 y12 y13 y14 y15 y16 y17 y18 y19 y20 y21 y22 y23 y24 y25 y26 y27 y28 y29 y30 y31 y32 y33 y34 y35 y36 y37 y38 y39 y40 y41 y42 y43 y44 y45 y46 y47 y48 y49 y50 y51 y52 y53 y54 y55 y56 y57 y58 y59 y60 y61 y62 : Value), inputT7.wp Tryd.prog (bodyPost Tryd.prog Tryd.f6 (BoolBelow true W)) { tmps := #[y0, .slice Ai L ci, .slice Am m cm, .int .i64 f, .pointer (some ⟨X3, 0, none⟩), y5, y6, y7, y8, .int .i64 (n : Int), .pointer (some ⟨X7, 0, none⟩), y11, y12, y13, y14, y15, y16, y17, y18, y19, y20, y21, y22, y23, y24, y25, y26, y27, y28, y29, y30, y31, y32, y33, y34, y35, y36, y37, y38, y39, y40, y41, y42, y43, y44, y45, y46, y47, y48, y49, y50, y51, y52, y53, y54, y55, y56, y57, y58, y59, y60, y61, y62], defers := [] } V2 := by
    intro V2 X7 hv he y0 y5 y6 y7 y8 y11 y12 y13 y14 y15 y16 y17 y18 y19 y20 y21 y22 y23 y24 y25 y26 y27 y28 y29 y30 y31 y32 y33 y34 y35 y36 y37 y38 y39 y40 y41 y42 y43 y44 y45 y46 y47 y48 y49 y50 y51 y52 y53 y54 y55 y56 y57 y58 y59 y60 y61 y62
    exact wp_seq (input_run7 (pa := pa) (pe := pe) (hb.trans (hv.mono hb.size)) (hr.below hv) hal hnp hlm hn hm hnc hpp he (fun V3 h3 => hS V3 (hv.trans (h3.mono hv.size))) hsh (fun V3 h3 => hpre V3 (hv.trans (h3.mono hv.size))) (fun V3 h3 => hmore V3 (hv.trans (h3.mono hv.size))) (fun V3 A2 c2 h3 => hrb V3 A2 c2 (hv.trans (h3.mono hv.size))) _ _ _ _ _ _ _ _ _ _ _ _ _ _ _ _ _ _ _ _ _ _ _ _ _ _ _ _ _ _ _ _ _ _ _ _ _ _ _ _ _ _ _ _ _ _ _ _ _ _ _ _ _ _ _ _ _ _ (fun a w h => h))
  obtain ⟨Q, hQ⟩ : ∃ Q, (bodyPost Tryd.prog Tryd.f6 (BoolBelow true W)) = Q := ⟨_, rfl⟩
  have HQ := Lib.hid hQ
  rw [hQ] at hend ⊢
  clear hQ
  have HEND := Lib.hid hend
  have HS := Lib.hid hS
  have HSH := Lib.hid hsh
  have D1 := Lib.hid (show Below V.heap.size V V.drew from (Below.refl _ _).drew)
  have D2 := Lib.hid (show Below V.heap.size V (V.alloc (.cells #[.int .i64 0, .int .i64 0, .slice none 0 0, .int .i64 0] 31)).drew from ((Below.refl _ _).alloc (Nat.le_refl _) _).drew)
  have HE9 := Lib.hid (fun (V2 : World) (hb : Below (V.alloc (.cells #[.int .i64 0, .int .i64 0, .slice none 0 0, .int .i64 0] 31)).drew.heap.size (V.alloc (.cells #[.int .i64 0, .int .i64 0, .slice none 0 0, .int .i64 0] 31)).drew V2) => (show V2.cell? ⟨V.heap.size, 0, none⟩ = some (.int .i64 0) ∧ V2.cell? ⟨V.heap.size, 1, none⟩ = some (.int .i64 0) ∧ V2.cell? ⟨V.heap.size, 2, none⟩ = some (.slice none 0 0) ∧ V2.cell? ⟨V.heap.size, 3, none⟩ = some (.int .i64 0) ∧ ∀ i, V2.frozen? ⟨V.heap.size, i, none⟩ = false from by
    have h := end_zero V V2 hb
    exact ⟨by simp [World.cell?, h], by simp [World.cell?, h], by simp [World.cell?, h], by simp [World.cell?, h], fun i => by simp [World.frozen?, h]⟩))
  have HR1 := Lib.hid (hra _ D1.out)
  have HR2 := Lib.hid (hra _ D2.out)
  obtain ⟨z0, z1, z2, z3⟩ := hS V (Below.refl _ _)
  have hn0 : (0 : Int) ≤ (n : Int) := by omega
  have hnc2 : (n : Int) ≤ (ci : Int) := by omega
  clear hS hra hrb hend hb hr hsh hpre hmore hpp hal hnp hlm hn hm
  unfold inputT6 Tryd.f6
  dsimp only
  go_wp2_with fail
  rw [← HQ.out]
  go_region_held2 (fun V2 => V2.cell? ⟨X3, 0, none⟩ = some (.int .i64 p0) ∧ V2.cell? ⟨X3, 1, none⟩ = some (.int .i64 p1) ∧ V2.cell? ⟨X3, 2, none⟩ = some (.slice P2 p2 e2) ∧ V2.cell? ⟨X3, 3, none⟩ = some (.slice P3 p3 e3))
    (first | exact HS.out _ D1.out | exact HS.out _ D2.out | exact HS.out _ (D1.out.trans (hb2.mono D1.out.size)) | exact HS.out _ (D2.out.trans (hb2.mono D2.out.size)) | exact HS.out _ ((D1.out.trans (hb2.mono D1.out.size)).alloc (Nat.le_trans D1.out.size hb2.size) _) | exact HS.out _ (((((D2.out.trans (hb2.mono D2.out.size)).setCell (p := ⟨_, _, none⟩) (Nat.le_refl _) _).setCell (p := ⟨_, _, none⟩) (Nat.le_refl _) _).setCell (p := ⟨_, _, none⟩) (Nat.le_refl _) _).setCell (p := ⟨_, _, none⟩) (Nat.le_refl _) _))
    ((first
      | (go_at_call 10; refine (HSH.out _).mono ?_; rintro en w' ⟨rfl, rfl⟩)
      | (go_at_call 9; (with_reducible refine HR2.out.mono ?_); rintro en w2 ⟨v, B, d, rfl, rfl, hE, hb2, hlo⟩; obtain ⟨e90, e91, e92, e93, e9f⟩ := HE9.out _ hb2)
      | (go_at_call 9; (with_reducible refine HR1.out.mono ?_); rintro en w2 ⟨v, B, d, rfl, rfl, hE, hb2, hlo⟩)))
  all_goals
    simp only [Exit.then]
    refine (‹∀ (a : Act) (w : World), Code.wp Tryd.prog _ _ a w → _›) _ _ ?_
    first
      | exact HEND.out _ _ ((D1.out.trans (hb2.mono D1.out.size)).alloc (Nat.le_trans D1.out.size hb2.size) _) (end_new hE) _ _ _ _ _ _ _ _ _ _ _ _ _ _ _ _ _ _ _ _ _ _ _ _ _ _ _ _ _ _ _ _ _ _ _ _ _ _ _ _ _ _ _ _ _ _ _ _ _ _ _ _ _ _ _ _ _
      | exact HEND.out _ _ (((((D2.out.trans (hb2.mono D2.out.size)).setCell (p := ⟨V.heap.size, 0, none⟩) (Nat.le_refl _) _).setCell (p := ⟨V.heap.size, 1, none⟩) (Nat.le_refl _) _).setCell (p := ⟨V.heap.size, 2, none⟩) (Nat.le_refl _) _).setCell (p := ⟨V.heap.size, 3, none⟩) (Nat.le_refl _) _) (end_set hb2 hlo hE) _ _ _ _ _ _ _ _ _ _ _ _ _ _ _ _ _ _ _ _ _ _ _ _ _ _ _ _ _ _ _ _ _ _ _ _ _ _ _ _ _ _ _ _ _ _ _ _ _ _ _ _ _ _ _ _ _
end Go.Proofs.YtnolhcdfknjncaaDoor

/-
  CevalInput: its walk.
-/
set_option linter.unusedVariables false
set_option linter.unusedSimpArgs false
namespace Go.Proofs.YtnolhcdfknjncaaDoor
open Go.RowKit

theorem input_law {t : Core} {inp more : List Int} {sf : Int} {n : Nat} (hl : inp.length ≤ 60) (hm : more.length ≤ 60) (hn : askN t inp sf = n) (hle : n ≤ inp.length) : runE t (inp.take n) sf = runE t (inp.take n ++ more) sf := by
  unfold runE
  by_cases hr : rightE t = 0
  · rw [if_pos hr, if_pos hr]
    unfold askN at hn
    rw [if_pos hr] at hn
    unfold runOut
    rw [List.take_of_length_le (i := 4096) (l := inp.take n) (by simp; omega), List.take_of_length_le (i := 4096) (l := inp.take n ++ more) (by simp; omega)]
    rw [input_ends hn hle]
  · rw [if_neg hr, if_neg hr]
noncomputable def inputC4 : Code := match Tryd.f6.body with
  | some (.seq _ (.seq _ (.seq _ (.seq c _)))) => c
  | _ => .skip
set_option maxRecDepth 100000 in
set_option maxHeartbeats 8000000 in
theorem input_tail4 {W V : World} (hb : Below W.heap.size W V) (hr : Ready V) {X3 L ci n m cm : Nat} {Ai Am : Option Addr} {f : Int} (ht : n ≤ L → ∀ (y0 y5 y6 y7 y8 y10 y11 y12 y13 y14 y15 y16 y17 y18 y19 y20 y21 y22 y23 y24 y25 y26 y27 y28 y29 y30 y31 y32 y33 y34 y35 y36 y37 y38 y39 y40 y41 y42 y43 y44 y45 y46 y47 y48 y49 y50 y51 y52 y53 y54 y55 y56 y57 y58 y59 y60 y61 y62 : Value), inputT6.wp Tryd.prog (bodyPost Tryd.prog Tryd.f6 (BoolBelow true W)) { tmps := #[y0, .slice Ai L ci, .slice Am m cm, .int .i64 f, .pointer (some ⟨X3, 0, none⟩), y5, y6, y7, y8, .int .i64 (n : Int), y10, y11, y12, y13, y14, y15, y16, y17, y18, y19, y20, y21, y22, y23, y24, y25, y26, y27, y28, y29, y30, y31, y32, y33, y34, y35, y36, y37, y38, y39, y40, y41, y42, y43, y44, y45, y46, y47, y48, y49, y50, y51, y52, y53, y54, y55, y56, y57, y58, y59, y60, y61, y62], defers := [] } V) (u0 u5 u6 u7 u8 u10 u11 u12 u13 u14 u15 u16 u17 u18 u19 u20 u21 u22 u23 u24 u25 u26 u27 u28 u29 u30 u31 u32 u33 u34 u35 u36 u37 u38 u39 u40 u41 u42 u43 u44 u45 u46 u47 u48 u49 u50 u51 u52 u53 u54 u55 u56 u57 u58 u59 u60 u61 u62 : Value) :
    ∀ K : Act → World → Prop, (∀ a w, inputT6.wp Tryd.prog (bodyPost Tryd.prog Tryd.f6 (BoolBelow true W)) a w → K a w) → inputC4.wp Tryd.prog (Exit.then K (bodyPost Tryd.prog Tryd.f6 (BoolBelow true W))) { tmps := #[u0, .slice Ai L ci, .slice Am m cm, .int .i64 f, .pointer (some ⟨X3, 0, none⟩), u5, u6, u7, u8, .int .i64 (n : Int), u10, u11, u12, u13, u14, u15, u16, u17, u18, u19, u20, u21, u22, u23, u24, u25, u26, u27, u28, u29, u30, u31, u32, u33, u34, u35, u36, u37, u38, u39, u40, u41, u42, u43, u44, u45, u46, u47, u48, u49, u50, u51, u52, u53, u54, u55, u56, u57, u58, u59, u60, u61, u62], defers := [] } V := by
  intro K hK0
  have HK0 := Lib.hid hK0
  clear hK0
  have HT := Lib.hid ht
  have HK := Lib.hid (knows_any V hr)
  have HB := Lib.hid hb
  clear ht hb hr
  obtain ⟨Q, hQ⟩ : ∃ Q, (bodyPost Tryd.prog Tryd.f6 (BoolBelow true W)) = Q := ⟨_, rfl⟩
  have HQ := Lib.hid hQ
  rw [hQ] at HK0 HT ⊢
  clear hQ
  unfold inputC4 Tryd.f6
  dsimp only
  by_cases hc : n ≤ L
  · have h1 : (n : Int) ≤ (L : Int) := by omega
    have h2 : ¬ ((L : Int) < (n : Int)) := by omega
    go_wp2_with fail
    exact HK0.out _ _ (HT.out hc _ _ _ _ _ _ _ _ _ _ _ _ _ _ _ _ _ _ _ _ _ _ _ _ _ _ _ _ _ _ _ _ _ _ _ _ _ _ _ _ _ _ _ _ _ _ _ _ _ _ _ _ _ _ _ _ _ _)
  · have h1 : (L : Int) < (n : Int) := by omega
    clear HT
    go_wp2_with (go_at_call 8; refine HK.out.mono ?_; rintro en V4 ⟨rfl, hv4⟩)
    rw [← HQ.out]
    go_ret
    exact ⟨rfl, HB.out.trans (hv4.mono HB.out.size)⟩
set_option maxRecDepth 100000 in
set_option maxHeartbeats 4000000 in
theorem input_guard {t : Core} {v : Array Value} (W : World) (hr : Ready W) (hin : CoreIn W.heap.size W t v) (hh : t.hgt ≤ 1048576) (inp more : List Int) (Ai Am : Option Addr) (ci cm : Nat) (f : Int) (hg : fewB t inp = false ∨ 60 < more.length) :
    Calls Tryd.prog 6 #[.agg v, .slice Ai inp.length ci, .slice Am more.length cm, .int .i64 f] W (BoolBelow true W) := by
  obtain ⟨k0, n0, A2, n2, d2, A3, n3, d3, rfl⟩ := hin.shape
  have hb0 : Below W.heap.size W (W.alloc (.cells #[.int .i64 k0, .int .i64 n0, .slice A2 n2 d2, .slice A3 n3 d3] 26)) := (Below.refl _ _).alloc (Nat.le_refl _) _
  have HF := Lib.hid (few_any _ (hin.later hb0) hh inp Ai ci)
  have HB := Lib.hid hb0
  have HR := Lib.hid (hr.below hb0)
  clear hin hb0 hr
  generalize inp.length = L at *
  generalize more.length = m at *
  cases hfw : fewB t inp with
  | false =>
    rw [hfw] at HF
    clear hfw hg
    go_enter Tryd.func6, Tryd.ntmps6
    go_wp2_with fail
    refine HF.out.mono ?_
    rintro e w' ⟨rfl, hb1⟩
    have HK := Lib.hid (knows_any w' (HR.out.below hb1))
    have HB1 := Lib.hid (HB.out.trans (hb1.mono HB.out.size))
    clear hb1
    go_wp2_with (go_at_call 8; refine HK.out.mono ?_; rintro e w2 ⟨rfl, hb2⟩)
    go_ret
    exact ⟨rfl, HB1.out.trans (hb2.mono HB1.out.size)⟩
  | true =>
    rw [hfw] at HF hg
    have hm : 60 < m := by simpa using hg
    have hm1 : (60 : Int) < (m : Int) := by omega
    clear hfw hg
    go_enter Tryd.func6, Tryd.ntmps6
    go_wp2_with fail
    refine HF.out.mono ?_
    rintro e w' ⟨rfl, hb1⟩
    have HK := Lib.hid (knows_any w' (HR.out.below hb1))
    have HB1 := Lib.hid (HB.out.trans (hb1.mono HB.out.size))
    clear hb1
    go_wp2_with (go_at_call 8; refine HK.out.mono ?_; rintro e w2 ⟨rfl, hb2⟩)
    go_ret
    exact ⟨rfl, HB1.out.trans (hb2.mono HB1.out.size)⟩
set_option maxRecDepth 100000 in
set_option maxHeartbeats 8000000 in
theorem input_walk {t : Core} {v : Array Value} (W : World) (hr : Ready W) (hin : CoreIn W.heap.size W t v) (hh : t.hgt ≤ 1048576) (inp more : List Int) (Ai Am : Option Addr) (ci cm : Nat) (hi : IntsIn W.heap.size W Ai inp) (hci : inp.length ≤ ci) (hi2 : IntsIn W.heap.size W Am more) (f : Int) (hf : fewB t inp = true) (hm : more.length ≤ 60) :
    Calls Tryd.prog 6 #[.agg v, .slice Ai inp.length ci, .slice Am more.length cm, .int .i64 f] W (BoolBelow true W) := by
  obtain ⟨p0, p1, P2, p2, e2, P3, p3, e3, rfl⟩ := hin.shape
  have hsm : nodesE t < 400 ∧ inp.length ≤ 60 := by
    simp only [fewB, decide_eq_true_eq] at hf
    exact hf
  have hh5 : t.hgt ≤ 50000 := by have := hgt_le_nodes t hsm.1; omega
  obtain ⟨sf, hsf⟩ : ∃ sf, min f 1500 = sf := ⟨_, rfl⟩
  obtain ⟨n, hn⟩ : ∃ n, askN t inp sf = n := ⟨_, rfl⟩
  obtain ⟨W0, hW0⟩ : ∃ W0, W.alloc (.cells #[.int .i64 p0, .int .i64 p1, .slice P2 p2 e2, .slice P3 p3 e3] 26) = W0 := ⟨_, rfl⟩
  have hb0 : Below W.heap.size W W0 := by rw [← hW0]; exact (Below.refl _ _).alloc (Nat.le_refl _) _
  have hx0 : W0.heap[W.heap.size]? = some (.cells #[.int .i64 p0, .int .i64 p1, .slice P2 p2 e2, .slice P3 p3 e3] 26 (0, 0)) := by rw [← hW0]; exact World.alloc_heap_new W _
  have HF := Lib.hid (few_any W0 (hin.later hb0) hh inp Ai ci)
  rw [hf] at HF
  have HS := Lib.hid (fun (V2 : World) (h : Below W0.heap.size W0 V2) => (show V2.cell? ⟨W.heap.size, 0, none⟩ = some (.int .i64 p0) ∧ V2.cell? ⟨W.heap.size, 1, none⟩ = some (.int .i64 p1) ∧ V2.cell? ⟨W.heap.size, 2, none⟩ = some (.slice P2 p2 e2) ∧ V2.cell? ⟨W.heap.size, 3, none⟩ = some (.slice P3 p3 e3) from rbox_cells hx0 h))
  have HSH := Lib.hid (fun (V : World) => (show Calls Tryd.prog 10 #[.int .i64 f] V fun e w' => e = .returned (.int .i64 sf) ∧ V = w' from hsf ▸ short_any f V))
  have HASK := Lib.hid (fun (V : World) (h : Below W0.heap.size W0 V) => (show Calls Tryd.prog 19 #[.agg #[.int .i64 p0, .int .i64 p1, .slice P2 p2 e2, .slice P3 p3 e3], .slice Ai inp.length ci, .int .i64 sf] V fun e w' => e = .returned (.int .i64 (n : Int)) ∧ Below V.heap.size V w' from by
    have hbW := hb0.trans (h.mono hb0.size)
    have := rasked_any (hin.later hbW) (fun h0 => small_of (wt_of_right h0) hsm.1) ((hi.below hbW).mono hbW.size) hci (by omega) sf
    rw [hn] at this
    exact this))
  have HT4 := Lib.hid (fun (V : World) (h : Below W0.heap.size W0 V) (y0 y5 y6 y7 y8 y10 y11 y12 y13 y14 y15 y16 y17 y18 y19 y20 y21 y22 y23 y24 y25 y26 y27 y28 y29 y30 y31 y32 y33 y34 y35 y36 y37 y38 y39 y40 y41 y42 y43 y44 y45 y46 y47 y48 y49 y50 y51 y52 y53 y54 y55 y56 y57 y58 y59 y60 y61 y62 : Value) =>
    (show (Code.seq inputC4 inputT6).wp Tryd.prog (bodyPost Tryd.prog Tryd.f6 (BoolBelow true W)) { tmps := #[y0, .slice Ai inp.length ci, .slice Am more.length cm, .int .i64 f, .pointer (some ⟨W.heap.size, 0, none⟩), y5, y6, y7, y8, .int .i64 (n : Int), y10, y11, y12, y13, y14, y15, y16, y17, y18, y19, y20, y21, y22, y23, y24, y25, y26, y27, y28, y29, y30, y31, y32, y33, y34, y35, y36, y37, y38, y39, y40, y41, y42, y43, y44, y45, y46, y47, y48, y49, y50, y51, y52, y53, y54, y55, y56, y57, y58, y59, y60, y61, y62], defers := [] } V from by
      have hbW := hb0.trans (h.mono hb0.size)
      have hrV := hr.below hbW
      have hcV : ∀ V2, Below V.heap.size V V2 → CoreIn V2.heap.size V2 t #[.int .i64 p0, .int .i64 p1, .slice P2 p2 e2, .slice P3 p3 e3] := fun V2 h2 => (hin.later hbW).later h2
      have hiV : ∀ V2, Below V.heap.size V V2 → IntsIn V2.heap.size V2 Ai inp := fun V2 h2 => (((hi.below hbW).mono hbW.size).below h2).mono h2.size
      have hmV : ∀ V2, Below V.heap.size V V2 → IntsIn V2.heap.size V2 Am more := fun V2 h2 => (((hi2.below hbW).mono hbW.size).below h2).mono h2.size
      refine wp_seq (input_tail4 hbW hrV (fun hle z0 z5 z6 z7 z8 z10 z11 z12 z13 z14 z15 z16 z17 z18 z19 z20 z21 z22 z23 z24 z25 z26 z27 z28 z29 z30 z31 z32 z33 z34 z35 z36 z37 z38 z39 z40 z41 z42 z43 z44 z45 z46 z47 z48 z49 z50 z51 z52 z53 z54 z55 z56 z57 z58 z59 z60 z61 z62 => ?_) _ _ _ _ _ _ _ _ _ _ _ _ _ _ _ _ _ _ _ _ _ _ _ _ _ _ _ _ _ _ _ _ _ _ _ _ _ _ _ _ _ _ _ _ _ _ _ _ _ _ _ _ _ _ _ _ _ _ _ (fun a w h => h))
      have hlt : (inp.take n).length = n := by simp; omega
      refine input_tail6 (L := inp.length) (sf := sf) (pre := inp.take n) (more := more) (all := inp.take n ++ more) (pa := runE t (inp.take n) sf) (pe := runE t (inp.take n ++ more) sf) hbW hrV rfl hlt rfl (by omega) hm (by omega) (input_law hsm.2 hm hn hle)
        (fun V2 h2 => rbox_cells hx0 (h.trans (h2.mono h.size))) (fun V2 => hsf ▸ short_any f V2) (fun V2 h2 => ints_row (ints_take (hiV V2 h2) n)) (fun V2 h2 => ints_row (hmV V2 h2)) (fun V2 h2 => ?_) (fun V2 A2 c2 h2 hi3 hc3 => run_ready (hrV.below h2) (hcV V2 h2) hh5 hi3 hc3 sf) _ _ _ _ _ _ _ _ _ _ _ _ _ _ _ _ _ _ _ _ _ _ _ _ _ _ _ _ _ _ _ _ _ _ _ _ _ _ _ _ _ _ _ _ _ _ _ _ _ _ _ _ _ _ _ _ _ _
      have := run_ready (hrV.below h2) (hcV V2 h2) hh5 (ints_take (hiV V2 h2) n) (ci := ci) (by omega) sf
      rw [hlt] at this
      exact this))
  have HB0 := Lib.hid hb0
  have hm1 : ¬ ((60 : Int) < (more.length : Int)) := by omega
  have hm2 : (more.length : Int) ≤ 60 := by omega
  clear hin hb0 hx0 hr hi hi2 hci hh hf hsm hh5 hsf hn
  generalize inp.length = L at *
  generalize more.length = m at *
  obtain ⟨y0, y1, y2, y3⟩ := HS.out W0 (Below.refl _ _)
  go_enter Tryd.func6, Tryd.ntmps6
  go_wp2_with fail
  refine HF.out.mono ?_
  rintro e w1 ⟨rfl, hb1⟩
  obtain ⟨z0, z1, z2, z3⟩ := HS.out w1 hb1
  have HB1 := Lib.hid hb1
  clear hb1
  go_wp2_with fail
  have D1 := Lib.hid (show Below W0.heap.size W0 w1.drew from HB1.out.drew)
  have HA1 := Lib.hid (HASK.out _ D1.out)
  go_region_held2 (fun V2 => V2.cell? ⟨W.heap.size, 0, none⟩ = some (.int .i64 p0) ∧ V2.cell? ⟨W.heap.size, 1, none⟩ = some (.int .i64 p1) ∧ V2.cell? ⟨W.heap.size, 2, none⟩ = some (.slice P2 p2 e2) ∧ V2.cell? ⟨W.heap.size, 3, none⟩ = some (.slice P3 p3 e3))
    (first | exact HS.out _ D1.out | exact HS.out _ (D1.out.trans (hb2.mono D1.out.size)))
    ((first
      | (go_at_call 10; refine (HSH.out _).mono ?_; rintro en w' ⟨rfl, rfl⟩)
      | (go_at_call 19; (with_reducible refine HA1.out.mono ?_); rintro en w2 ⟨rfl, hb2⟩)))
  all_goals
    simp only [Exit.then]
    refine (‹∀ (a : Act) (w : World), Code.wp Tryd.prog _ _ a w → _›) _ _ ?_
    exact HT4.out _ (D1.out.trans (hb2.mono D1.out.size)) _ _ _ _ _ _ _ _ _ _ _ _ _ _ _ _ _ _ _ _ _ _ _ _ _ _ _ _ _ _ _ _ _ _ _ _ _ _ _ _ _ _ _ _ _ _ _ _ _ _ _ _ _ _ _ _ _ _
end Go.Proofs.YtnolhcdfknjncaaDoor
