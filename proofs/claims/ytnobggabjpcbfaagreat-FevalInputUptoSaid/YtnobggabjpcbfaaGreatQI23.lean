/-
 4 texts of this seat in one: FV6 FV7 FV8 FV9.
-/
import Derived.Test.YtnobggabjpcbfaaGreatQI22
set_option maxRecDepth 100000
set_option maxHeartbeats 16000000
set_option linter.unusedVariables false
set_option linter.unusedSimpArgs false
namespace Go.Proofs.YtnobggabjpcbfaaGreat
open Go.RowKit
theorem which_at {ks : List Int} {key : Int} {j : Nat} (hj : j < ks.length) (h : ∀ k, k < j → nth ks k ≠ key) (he : nth ks j = key) : whichAt ks key = j + 1 := by
 have : ks.findIdx? (· == key) = some j := by
  rw [List.findIdx?_eq_some_iff_getElem]
  refine ⟨hj, by rw [← nth_eq ks hj]; simpa using he, fun k hk => ?_⟩
  have := h k hk
  rw [nth_eq ks (by omega)] at this
  simpa using this
 simp [whichAt, this]
theorem which_no {ks : List Int} {key : Int} (h : ∀ k, k < ks.length → nth ks k ≠ key) : whichAt ks key = 0 := by
 have : ks.findIdx? (· == key) = none := by
  rw [List.findIdx?_eq_none_iff]
  intro x hx
  obtain ⟨k, hk, rfl⟩ := List.getElem_of_mem hx
  have := h k hk
  rw [nth_eq ks hk] at this
  simpa using this
 simp [whichAt, this]
theorem rwhich_any (A : Option Addr) (c : Nat) (ks : List Int) (key : Int) (B : Nat) (w : World) (h : IntsIn B w A ks) :
 Calls Tryz.prog 88 #[.slice A ks.length c, .int .i64 key] w fun e w' => e = .returned (.int .i64 (whichAt ks key : Int)) ∧ w = w' := by
 have hl := h.1
 go_enter Tryz.func88, Tryz.ntmps88
 go_wp2_with fail
 go_loopw [5] (fun i wr => ∃ j : Nat, j ≤ ks.length ∧ i = .int .i64 (j : Int) ∧ Hid (∀ k, k < j → nth ks k ≠ key) ∧ w = wr) (fun i _ => ks.length - (intOf i).toNat)
 case atStart => exact ⟨0, by omega, rfl, Lib.hid (fun k hk => by omega), rfl⟩
 case round =>
  obtain ⟨j, hj, rfl, HN, rfl⟩ := hrel
  by_cases hlt : j < ks.length
  · obtain ⟨b, o, rfl, hb, hc⟩ := h.at_ (by omega)
    have hcj := hc j hlt
    clear hc
    have hj0 : (0 : Int) ≤ (j : Int) := by omega
    have hjl : (j : Int) < (ks.length : Int) := by omega
    by_cases hx : nth ks j = key
    · have hxb : (nth ks j == key) = true := by simpa using hx
      have HF := Lib.hid (which_at hlt HN.out hx)
      clear hx
      generalize nth ks j = x at *
      go_wp2_with fail
      go_ret
      exact ⟨ret_int (by rw [HF.out]; push_cast; rfl), rfl⟩
    · have hxb : (nth ks j == key) = false := by simpa using hx
      have HN2 := Lib.hid (show ∀ k, k < j + 1 → nth ks k ≠ key from fun k hk => by
       rcases Nat.lt_or_ge k j with h' | h'
       · exact HN.out k h'
       · obtain rfl : k = j := by omega
         exact hx)
      clear hx
      generalize nth ks j = x at *
      go_wp2_with fail
      go_roundw
      case rel => exact ⟨j + 1, by omega, by go_num, HN2, trivial⟩
      case measure => simp [intOf]; omega
  · have hjl : ¬ (j : Int) < (ks.length : Int) := by omega
    have HF := Lib.hid (which_no (ks := ks) (key := key) (fun k hk => HN.out k (by omega)))
    go_wp2_with fail
    go_ret
    exact ⟨ret_int (by rw [HF.out]; rfl), rfl⟩
def FPost (X : Nat → Prop) (nf nc : Nat) (W0 W : World) (o : Option PV) (e : Ending) (W' : World) : Prop :=
 Below W.heap.size W W' ∧ ((∃ v a b c, o = some v ∧ e = .returned (.tuple #[.agg #[a, b, c], .bool true]) ∧ VIn X nf nc W0 v a b c) ∨ (o = none ∧ e = .returned (.tuple #[zeroV, .bool false])))
theorem rfind_any {X : Nat → Prop} {nf nc : Nat} {W0 W : World} (hW : Below W0.heap.size W0 W) {env : PEnv} {p : Value} (h : EIn X nf nc W0 env p) (x : Int) : Calls Tryz.prog 75 #[p, .int .i64 x] W (FPost X nf nc W0 W (lookup env x)) := by
 obtain ⟨pq, rfl⟩ := h.shape
 have hb : Below W.heap.size W (W.alloc (.cells #[.int .i64 0, .int .i64 0, .slice none 0 0] 46)) := (Below.refl _ _).alloc (Nat.le_refl _) _
 have HB := Lib.hid hb
 have HB0 := Lib.hid (hW.trans (hb.mono hW.size))
 have HE := Lib.hid h
 clear h hb
 go_enter Tryz.func75, Tryz.ntmps75
 go_wp2_with fail
 go_loopg [0] env.length (fun k p wr => (W.alloc (.cells #[.int .i64 0, .int .i64 0, .slice none 0 0] 46)) = wr ∧ ∃ e' : PEnv, EIn X nf nc W0 e' p ∧ e'.length = k ∧ Hid (lookup env x = lookup e' x))
 case atStart => exact ⟨rfl, env, HE.out, rfl, Lib.hid rfl⟩
 case round =>
  obtain ⟨rfl, e', he, hk, HL⟩ := hrel
  have HK := Lib.hid hk
  clear hk
  cases he with
  | nil =>
   go_wp2_with fail
   exact bodyPost_ret (v := .tuple #[zeroV, .bool false]) (by simp [results, Tryz.results75, go_sem, zeroV]) rfl ⟨HB.out, .inr ⟨HL.out, rfl⟩⟩
  | cons y v e b a0 a1 a2 up hx c0 c1 c2 c3 c4 hv he =>
   obtain ⟨kk, nn, A, l, d, rfl, rfl, rfl⟩ := hv.shape
   obtain ⟨uq, rfl⟩ := he.shape
   have d0 := cell_behind HB0.out c0
   have d1 := cell_behind HB0.out c1
   have d2 := cell_behind HB0.out c2
   have d3 := cell_behind HB0.out c3
   have d4 := cell_behind HB0.out c4
   clear c0 c1 c2 c3 c4
   by_cases hyx : y = x
   · have hx' : (y == x) = true := by simpa using hyx
     have hx2 : (y != x) = false := by simpa using hyx
     have hb3 : Below W.heap.size W (W.alloc (.cells #[.int .i64 kk, .int .i64 nn, .slice A l d] 46)) := (Below.refl _ _).alloc (Nat.le_refl _) _
     have HP := Lib.hid (show FPost X nf nc W0 W (lookup env x) (.returned (.tuple #[.agg #[.int .i64 kk, .int .i64 nn, .slice A l d], .bool true])) (W.alloc (.cells #[.int .i64 kk, .int .i64 nn, .slice A l d] 46)) from
      ⟨hb3, .inl ⟨v, _, _, _, HL.out.trans ((lookup_cons x y v e).trans (if_pos hyx)), rfl, hv⟩⟩)
     clear hv he HL hyx hb3
     go_wp2_with fail
     exact bodyPost_ret (v := .tuple #[.agg #[.int .i64 kk, .int .i64 nn, .slice A l d], .bool true]) (by simp [results, Tryz.results75, go_sem]) rfl HP.out
   · have hx' : (y == x) = false := by simpa using hyx
     have hx2 : (y != x) = true := by simpa using hyx
     have hl2 := Lib.hid (HL.out.trans ((lookup_cons x y v e).trans (if_neg hyx)))
     clear hyx
     go_wp2_with fail
     go_roundg e.length
     case measure => have := HK.out; simp at this; omega
     case rel => exact ⟨rfl, e, he, rfl, hl2⟩
end Go.Proofs.YtnobggabjpcbfaaGreat
namespace Go.Proofs.YtnobggabjpcbfaaGreat
open Go.RowKit
section
variable {X Y : Nat → Prop} {B mb cb : Nat} {fv : Value} {inp : List Int} {fuel : FL} {s s1 : FSt} {cut stk rai : Bool} {x0 x1 x2 : Value} {W W' W1 W2 : World} {o : FOut}
def OutIn (X : Nat → Prop) (B mb cb : Nat) (fv : Value) (inp : List Int) (fuel : FL) (W : World) (a b c : Value) : FOut → Prop
 | (.val v, s) => RGo X B mb cb fv inp fuel s W ∧ VIn X s.made.length s.cells.length W v a b c
 | (.raised v, s) => ∃ y0 y1 y2, RIn X B mb cb fv inp fuel s false false true y0 y1 y2 W ∧ VIn X s.made.length s.cells.length W v y0 y1 y2 ∧ ∃ k, keyOf v = some k
 | (.stuck, s) => ∃ md, RIn X B mb cb fv inp fuel { s with made := md } false true false (.int .i64 0) (.int .i64 0) (.slice none 0 0) W
 | (.cut, s) => RIn X B mb cb fv inp fuel s true false false (.int .i64 0) (.int .i64 0) (.slice none 0 0) W
theorem OutIn.more {a b c : Value} (h : OutIn X B mb cb fv inp fuel W a b c o) (hs : ∀ k, Y k → X k ∨ W.heap.size ≤ k) (hY : ∀ k, Own2 mb cb k → Y k) : OutIn Y B mb cb fv inp fuel W a b c o := by
 obtain ⟨r, s⟩ := o
 cases r with
 | val v => exact ⟨h.1.more hs hY, h.2.more hs⟩
 | raised v => obtain ⟨y0, y1, y2, h1, h2, h3⟩ := h; exact ⟨y0, y1, y2, h1.more hs hY, h2.more hs, h3⟩
 | stuck => obtain ⟨md, h⟩ := h; exact ⟨md, RIn.more h hs hY⟩
 | cut => exact RIn.more h hs hY
theorem OutIn.hid_ {a b c : Value} {p : Nat} (h : OutIn X B mb cb fv inp fuel W a b c o) (hp : X p) (hB : B ≤ p) (h1 : p ≠ mb) (h2 : p ≠ cb) (i : Nat) (x : Value) : OutIn X B mb cb fv inp fuel (W.setCell ⟨p, i, none⟩ x) a b c o := by
 obtain ⟨r, s⟩ := o
 have hk : KpX X W (W.setCell ⟨p, i, none⟩ x) := KpX.setCell W i x hp
 cases r with
 | val v => exact ⟨h.1.hid_ hp hB h1 h2 i x, h.2.step hk (Nat.le_refl _) (Nat.le_refl _)⟩
 | raised v => obtain ⟨y0, y1, y2, g1, g2, g3⟩ := h; exact ⟨y0, y1, y2, g1.hid_ hp hB h1 h2 i x, g2.step hk (Nat.le_refl _) (Nat.le_refl _), g3⟩
 | stuck => obtain ⟨md, h⟩ := h; exact ⟨md, RIn.hid_ h hp hB h1 h2 i x⟩
 | cut => exact RIn.hid_ h hp hB h1 h2 i x
theorem OutIn.below {a b c : Value} (h : OutIn X B mb cb fv inp fuel W a b c o) (hb : Below W.heap.size W W') : OutIn X B mb cb fv inp fuel W' a b c o := by
 obtain ⟨r, s⟩ := o
 cases r with
 | val v => exact ⟨h.1.below hb, h.2.step (KpX.below hb) (Nat.le_refl _) (Nat.le_refl _)⟩
 | raised v => obtain ⟨y0, y1, y2, g1, g2, g3⟩ := h; exact ⟨y0, y1, y2, g1.below hb, g2.step (KpX.below hb) (Nat.le_refl _) (Nat.le_refl _), g3⟩
 | stuck => obtain ⟨md, h⟩ := h; exact ⟨md, RIn.below h hb⟩
 | cut => exact RIn.below h hb
def ROut (X : Nat → Prop) (B mb cb : Nat) (fv : Value) (inp : List Int) (fuel : FL) (s : FSt) (o : FOut) (W : World) (e : Ending) (W' : World) : Prop :=
 Stp B mb cb W W' ∧ (s.made.length ≤ o.2.made.length ∧ s.cells.length ≤ o.2.cells.length) ∧ ∃ k n A l d, e = .returned (.agg #[.int .i64 k, .int .i64 n, .slice A l d]) ∧ OutIn X B mb cb fv inp fuel W' (.int .i64 k) (.int .i64 n) (.slice A l d) o
def Bx (X : Nat → Prop) (b : Nat) (k : Nat) : Prop := X k ∨ k = b
theorem RIn.bx {b : Nat} (h : RIn X B mb cb fv inp fuel s cut stk rai x0 x1 x2 W) (hb : W.heap.size ≤ b) : RIn (Bx X b) B mb cb fv inp fuel s cut stk rai x0 x1 x2 W :=
 h.more (fun k hk => hk.imp id (fun e => by omega)) (fun k hk => .inl (h.hX k hk))
theorem VIn.bx {nf nc b : Nat} {v : PV} {y0 y1 y2 : Value} (h : VIn X nf nc W v y0 y1 y2) (hb : W.heap.size ≤ b) : VIn (Bx X b) nf nc W v y0 y1 y2 :=
 h.more (fun k hk => hk.imp id (fun e => by omega))
theorem VRow.bx {nf nc b : Nat} {A : Option Addr} {l : List PV} (h : VRow X nf nc W A l) (hb : W.heap.size ≤ b) : VRow (Bx X b) nf nc W A l :=
 h.more (fun k hk => hk.imp id (fun e => by omega))
theorem EIn.bx {nf nc b : Nat} {e : PEnv} {p : Value} (h : EIn X nf nc W e p) (hb : W.heap.size ≤ b) : EIn (Bx X b) nf nc W e p :=
 h.more (fun k hk => hk.imp id (fun e => by omega))
theorem ROut.box {b : Nat} {z0 z1 z2 : Value} {T : TypeId} {e : Ending} (hX : ∀ k, Own2 mb cb k → X k) (hB : B ≤ W.heap.size) (hm : mb < W.heap.size ∧ cb < W.heap.size) (hb : W.heap.size ≤ b) (hb1 : W1.heap[b]? = some (.cells #[z0, z1, z2] T (0, 0)))
 (h1 : Stp B mb cb W W1) (hs : s.made.length ≤ s1.made.length ∧ s.cells.length ≤ s1.cells.length) (h : ROut (Bx X b) B mb cb fv inp fuel s1 o W1 e W2) :
 ∃ k n A l d, e = .returned (.agg #[.int .i64 k, .int .i64 n, .slice A l d]) ∧ (W2.cell? ⟨b, 0, none⟩ = some z0 ∧ W2.cell? ⟨b, 1, none⟩ = some z1 ∧ W2.cell? ⟨b, 2, none⟩ = some z2 ∧ (∀ i, W2.frozen? ⟨b, i, none⟩ = false)) ∧
  ROut X B mb cb fv inp fuel s o W (.returned (.agg #[.int .i64 k, .int .i64 n, .slice A l d])) (((W2.setCell ⟨b, 0, none⟩ (.int .i64 k)).setCell ⟨b, 1, none⟩ (.int .i64 n)).setCell ⟨b, 2, none⟩ (.slice A l d)) := by
 obtain ⟨hst, hmo, k, n, A, l, d, rfl, ho⟩ := h
 have e1 : b ≠ mb := by omega
 have e2 : b ≠ cb := by omega
 have e3 : B ≤ b := by omega
 have hno : ¬ Own2 mb cb b := fun h => by rcases h with h | h <;> omega
 refine ⟨k, n, A, l, d, rfl, box_at hst.kp hb1 hno, ?_⟩
 have h2 := h1.trans hst
 refine ⟨((h2.setNew hb hB 0 _).setNew hb hB 1 _).setNew hb hB 2 _, ⟨Nat.le_trans hs.1 hmo.1, Nat.le_trans hs.2 hmo.2⟩, k, n, A, l, d, rfl, ?_⟩
 exact (((ho.hid_ (.inr rfl) e3 e1 e2 0 _).hid_ (.inr rfl) e3 e1 e2 1 _).hid_ (.inr rfl) e3 e1 e2 2 _).more (fun k hk => .inl (.inl hk)) hX
theorem ROut.box' {b : Nat} {z0 z1 z2 : Value} {T : TypeId} {k n : Int} {A : Option Addr} {l d : Nat} (hX : ∀ k, Own2 mb cb k → X k) (hB : B ≤ W.heap.size) (hm : mb < W.heap.size ∧ cb < W.heap.size) (hb : W.heap.size ≤ b) (hb1 : W1.heap[b]? = some (.cells #[z0, z1, z2] T (0, 0)))
 (h1 : Stp B mb cb W W1) (hs : s.made.length ≤ s1.made.length ∧ s.cells.length ≤ s1.cells.length) (h : ROut (Bx X b) B mb cb fv inp fuel s1 o W1 (.returned (.agg #[.int .i64 k, .int .i64 n, .slice A l d])) W2) :
 (W2.cell? ⟨b, 0, none⟩ = some z0 ∧ W2.cell? ⟨b, 1, none⟩ = some z1 ∧ W2.cell? ⟨b, 2, none⟩ = some z2 ∧ (∀ i, W2.frozen? ⟨b, i, none⟩ = false)) ∧
  ROut X B mb cb fv inp fuel s o W (.returned (.agg #[.int .i64 k, .int .i64 n, .slice A l d])) (((W2.setCell ⟨b, 0, none⟩ (.int .i64 k)).setCell ⟨b, 1, none⟩ (.int .i64 n)).setCell ⟨b, 2, none⟩ (.slice A l d)) := by
 obtain ⟨k', n', A', l', d', he, hc, hr⟩ := ROut.box hX hB hm hb hb1 h1 hs h
 simp only [Ending.returned.injEq, Value.agg.injEq, Array.mk.injEq, List.cons.injEq, Value.int.injEq, Value.slice.injEq, true_and, and_true] at he
 obtain ⟨rfl, rfl, rfl, rfl, rfl⟩ := he
 exact ⟨hc, hr⟩
theorem ROut.stop {e : Ending} (hp : StopPost X B mb cb fv inp fuel s false false (.int .i64 0) (.int .i64 0) (.slice none 0 0) W e W2) : ROut X B mb cb fv inp fuel s (.stuck, s) W e W2 :=
 ⟨hp.1, ⟨Nat.le_refl _, Nat.le_refl _⟩, 0, 0, none, 0, 0, hp.2.1, s.made, hp.2.2⟩
theorem new1 (W : World) (o1 : Obj) : (W.alloc o1).heap[W.heap.size]? = some o1 := World.alloc_heap_new _ _
theorem new2 (W : World) (o1 o2 : Obj) : ((W.alloc o1).alloc o2).heap[W.heap.size + 1]? = some o2 := by
 have := World.alloc_heap_new (W.alloc o1) o2
 simpa using this
theorem new3 (W : World) (o1 o2 o3 : Obj) : (((W.alloc o1).alloc o2).alloc o3).heap[W.heap.size + 1 + 1]? = some o3 := by
 have := World.alloc_heap_new ((W.alloc o1).alloc o2) o3
 simpa using this
def fieldO (v : PV) (n : Int) (s : FSt) : FOut := match v with | .blk _ l => if n < l.length then (.val (l[n.toNat]?.getD default), s) else (.stuck, s) | _ => (.stuck, s)
theorem rfield_any (h : RGo X B mb cb fv inp fuel s W) {v : PV} {a b c : Value} (hv : VIn X s.made.length s.cells.length W v a b c) (n : Int) (hn : 0 ≤ n) :
 Calls Tryz.prog 87 #[.pointer (some ⟨mb, 0, none⟩), .agg #[a, b, c], .int .i64 n] W (ROut X B mb cb fv inp fuel s (fieldO v n s) W) := by
 obtain ⟨k0, n0, A0, l0, d0, rfl, rfl, rfl⟩ := hv.shape
 have hb1 : Below W.heap.size W (W.alloc (.cells #[.int .i64 k0, .int .i64 n0, .slice A0 l0 d0] 46)) := (Below.refl _ _).alloc (Nat.le_refl _) _
 have hb2 : Below W.heap.size W ((W.alloc (.cells #[.int .i64 k0, .int .i64 n0, .slice A0 l0 d0] 46)).alloc (.cells #[.int .i64 0, .int .i64 0, .slice none 0 0] 46)) := hb1.alloc hb1.size _
 by_cases hf : ∃ t ks, v = .blk t ks ∧ n < ks.length
 · obtain ⟨t, ks, rfl, hlt⟩ := hf
   obtain ⟨A, d, e1, e2, e3, hd, hk, hrow⟩ := hv.row
   cases e1
   cases e2
   cases e3
   have hnt : n.toNat < ks.length := by omega
   obtain ⟨bb, oo, a0, a1, a2, rfl, c0, c1, c2, hsub⟩ := hrow.at_ hnt
   obtain ⟨k1, n1, A1, l1, d1, rfl, rfl, rfl⟩ := hsub.shape
   have r0 := cell_behind hb2 c0
   have r1 := cell_behind hb2 c1
   have r2 := cell_behind hb2 c2
   have hlt' : ¬ (ks.length : Int) ≤ n := by omega
   obtain ⟨m, hm⟩ : ∃ m : Nat, n = (m : Int) := ⟨n.toNat, by omega⟩
   subst hm
   simp only [Int.toNat_natCast] at hnt hsub r0 r1 r2
   have hb3 : Below W.heap.size W ((W.alloc (.cells #[.int .i64 2, .int .i64 n0, .slice (some ⟨bb, oo, none⟩) ks.length d0] 46)).alloc (.cells #[.int .i64 k1, .int .i64 n1, .slice A1 l1 d1] 46)) := hb1.alloc hb1.size _
   have HP := Lib.hid (show ROut X B mb cb fv inp fuel s (fieldO (.blk n0 ks) (m : Int) s) W (.returned (.agg #[.int .i64 k1, .int .i64 n1, .slice A1 l1 d1])) ((W.alloc (.cells #[.int .i64 2, .int .i64 n0, .slice (some ⟨bb, oo, none⟩) ks.length d0] 46)).alloc (.cells #[.int .i64 k1, .int .i64 n1, .slice A1 l1 d1] 46)) from by
    have he : fieldO (.blk n0 ks) (m : Int) s = (.val ks[m], s) := by
     simp only [fieldO]
     rw [if_pos hlt]
     simp [hnt]
    rw [he]
    exact ⟨Stp.below hb3 h.hBW, ⟨Nat.le_refl _, Nat.le_refl _⟩, k1, n1, A1, l1, d1, rfl, h.below hb3, hsub.step (KpX.below hb3) (Nat.le_refl _) (Nat.le_refl _)⟩)
   have hm0 : (0 : Int) ≤ (m : Int) := by omega
   have hml : (m : Int) < (ks.length : Int) := by omega
   clear h hv hb1 hb2 hb3 c0 c1 c2 hsub hrow hlt
   generalize ks.length = kl at *
   go_enter Tryz.func87, Tryz.ntmps87
   go_wp2_with fail
   exact bodyPost_ret (v := .agg #[.int .i64 k1, .int .i64 n1, .slice A1 l1 d1]) (by simp [results, Tryz.results87, go_sem]) rfl HP.out
 · have he : fieldO v n s = (.stuck, s) := by
    cases v with
    | blk t ks => simp only [fieldO]; rw [if_neg (fun e => hf ⟨t, ks, rfl, e⟩)]
    | _ => rfl
   rw [he]
   have HS := Lib.hid ((rstop_any ((h.bx (b := W.heap.size + 1) (by omega)).below hb2)).mono fun e w' hp => ROut.box (W := W) (b := W.heap.size + 1) h.hX h.hBW (own_lt h) (by omega) (new2 _ _ _) (Stp.below hb2 h.hBW) ⟨Nat.le_refl _, Nat.le_refl _⟩ (ROut.stop hp))
   have hge : k0 = 2 → ¬ n < (l0 : Int) := fun hk hlt => by
    subst hk
    cases hv with
    | blk t ks A c b o G0 G1 G2 hl hb hA c0 c1 c2 hsub => exact hf ⟨_, _, rfl, hlt⟩
   clear h hv hb1 hb2 hf he
   by_cases hk2 : k0 = 2
   · have hnl : (l0 : Int) ≤ n := by have := hge hk2; omega
     subst hk2
     clear hge
     go_enter Tryz.func87, Tryz.ntmps87
     go_wp2_with (go_at_call 49; refine HS.out.mono ?_; rintro e w' ⟨k, n, A, l, d, rfl, ⟨f0, f1, f2, ff⟩, hR⟩; have HR := Lib.hid hR; clear hR)
     exact bodyPost_ret (v := .agg #[.int .i64 k, .int .i64 n, .slice A l d]) (by simp [results, Tryz.results87, go_sem, f0, f1, f2]) rfl HR.out
   · have hk3 : (k0 == 2) = false := by simpa using hk2
     have hk4 : (k0 != 2) = true := by simpa using hk2
     clear hge hk2
     go_enter Tryz.func87, Tryz.ntmps87
     go_wp2_with (go_at_call 49; refine HS.out.mono ?_; rintro e w' ⟨k, n, A, l, d, rfl, ⟨f0, f1, f2, ff⟩, hR⟩; have HR := Lib.hid hR; clear hR)
     exact bodyPost_ret (v := .agg #[.int .i64 k, .int .i64 n, .slice A l d]) (by simp [results, Tryz.results87, go_sem, f0, f1, f2]) rfl HR.out
end
end Go.Proofs.YtnobggabjpcbfaaGreat
namespace Go.Proofs.YtnobggabjpcbfaaGreat
open Go.RowKit
section
variable {X Y : Nat → Prop} {B mb cb : Nat} {fv : Value} {inp : List Int} {fuel : FL} {s s1 : FSt} {cut stk rai : Bool} {x0 x1 x2 : Value} {W W' W1 W2 : World} {o : FOut}
theorem set4_heap {b : Nat} {cs : Array Value} {T : TypeId} {fr : Nat × Nat} (h : W.heap[b]? = some (.cells cs T fr)) (i j k l : Nat) (y0 y1 y2 y3 : Value) :
 ((((W.setCell ⟨b, i, none⟩ y0).setCell ⟨b, j, none⟩ y1).setCell ⟨b, k, none⟩ y2).setCell ⟨b, l, none⟩ y3).heap[b]? = some (.cells ((((cs.setIfInBounds i y0).setIfInBounds j y1).setIfInBounds k y2).setIfInBounds l y3) T fr) :=
 heap_set_self (heap_set_self (heap_set_self (heap_set_self h i y0) j y1) k y2) l y3
theorem set4_ne {b c : Nat} (hne : c ≠ b) (i j k l : Nat) (y0 y1 y2 y3 : Value) :
 ((((W.setCell ⟨b, i, none⟩ y0).setCell ⟨b, j, none⟩ y1).setCell ⟨b, k, none⟩ y2).setCell ⟨b, l, none⟩ y3).heap[c]? = W.heap[c]? :=
 (heap_set_ne hne _ _).trans ((heap_set_ne hne _ _).trans ((heap_set_ne hne _ _).trans (heap_set_ne hne _ _)))
theorem Stp.set4 (W : World) {b : Nat} (hb : Own2 mb cb b) (hB : B ≤ b) (i j k l : Nat) (y0 y1 y2 y3 : Value) : Stp B mb cb W ((((W.setCell ⟨b, i, none⟩ y0).setCell ⟨b, j, none⟩ y1).setCell ⟨b, k, none⟩ y2).setCell ⟨b, l, none⟩ y3) :=
 (((Stp.set W hb hB i y0).trans (Stp.set _ hb hB j y1)).trans (Stp.set _ hb hB k y2)).trans (Stp.set _ hb hB l y3)
def raiseO (v : PV) (s : FSt) : FOut := match keyOf v with | some _ => (.raised v, s) | none => (.stuck, s)
theorem RIn.raise1 (h : RIn X B mb cb fv inp fuel s cut stk rai x0 x1 x2 W) (y0 y1 y2 : Value) : RIn X B mb cb fv inp fuel s cut stk true y0 y1 y2 ((((W.setCell ⟨mb, 8, none⟩ (.bool true)).setCell ⟨mb, 9, none⟩ y0).setCell ⟨mb, 10, none⟩ y1).setCell ⟨mb, 11, none⟩ y2) :=
 h.turn (Stp.set4 W (.inl rfl) h.hmb _ _ _ _ _ _ _ _) (set4_ne (Ne.symm h.hne) _ _ _ _ _ _ _ _) (fun Ai ci Ao co Ac cc h1 => by rw [set4_heap h1]; rfl) rfl rfl rfl (Nat.le_refl _) h.askB
theorem RIn.raise2 (h : RIn X B mb cb fv inp fuel s cut stk rai x0 x1 x2 W) (y0 y1 y2 : Value) : RIn X B mb cb fv inp fuel s cut stk true y0 y1 y2 ((((W.setCell ⟨mb, 9, none⟩ y0).setCell ⟨mb, 10, none⟩ y1).setCell ⟨mb, 11, none⟩ y2).setCell ⟨mb, 8, none⟩ (.bool true)) :=
 h.turn (Stp.set4 W (.inl rfl) h.hmb _ _ _ _ _ _ _ _) (set4_ne (Ne.symm h.hne) _ _ _ _ _ _ _ _) (fun Ai ci Ao co Ac cc h1 => by rw [set4_heap h1]; rfl) rfl rfl rfl (Nat.le_refl _) h.askB
theorem RIn.calm1 (h : RIn X B mb cb fv inp fuel s cut stk rai x0 x1 x2 W) : RIn X B mb cb fv inp fuel s cut stk false (.int .i64 0) (.int .i64 0) (.slice none 0 0) ((((W.setCell ⟨mb, 8, none⟩ (.bool false)).setCell ⟨mb, 9, none⟩ (.int .i64 0)).setCell ⟨mb, 10, none⟩ (.int .i64 0)).setCell ⟨mb, 11, none⟩ (.slice none 0 0)) :=
 h.turn (Stp.set4 W (.inl rfl) h.hmb _ _ _ _ _ _ _ _) (set4_ne (Ne.symm h.hne) _ _ _ _ _ _ _ _) (fun Ai ci Ao co Ac cc h1 => by rw [set4_heap h1]; rfl) rfl rfl rfl (Nat.le_refl _) h.askB
theorem raise_out {v : PV} {k : Int} {y0 y1 y2 : Value} (h : RGo X B mb cb fv inp fuel s W) (hv : VIn X s.made.length s.cells.length W v y0 y1 y2) (hk : keyOf v = some k) (hw : W' = ((((W.setCell ⟨mb, 8, none⟩ (.bool true)).setCell ⟨mb, 9, none⟩ y0).setCell ⟨mb, 10, none⟩ y1).setCell ⟨mb, 11, none⟩ y2) ∨ W' = ((((W.setCell ⟨mb, 9, none⟩ y0).setCell ⟨mb, 10, none⟩ y1).setCell ⟨mb, 11, none⟩ y2).setCell ⟨mb, 8, none⟩ (.bool true))) :
 ROut X B mb cb fv inp fuel s (.raised v, s) W (.returned zeroV) W' := by
 have hs : Stp B mb cb W W' := by
  rcases hw with rfl | rfl
  · exact Stp.set4 W (.inl rfl) h.hmb _ _ _ _ _ _ _ _
  · exact Stp.set4 W (.inl rfl) h.hmb _ _ _ _ _ _ _ _
 refine ⟨hs, ⟨Nat.le_refl _, Nat.le_refl _⟩, 0, 0, none, 0, 0, rfl, y0, y1, y2, ?_, hv.step (hs.kp.mono h.hX) (Nat.le_refl _) (Nat.le_refl _), k, hk⟩
 rcases hw with rfl | rfl
 · exact h.raise1 y0 y1 y2
 · exact h.raise2 y0 y1 y2
theorem rraise_any (h : RGo X B mb cb fv inp fuel s W) {v : PV} {a b c : Value} (hv : VIn X s.made.length s.cells.length W v a b c) :
 Calls Tryz.prog 90 #[.pointer (some ⟨mb, 0, none⟩), .agg #[a, b, c]] W (ROut X B mb cb fv inp fuel s (raiseO v s) W) := by
 obtain ⟨k0, n0, A0, l0, d0, rfl, rfl, rfl⟩ := hv.shape
 have hb1 : Below W.heap.size W (W.alloc (.cells #[.int .i64 k0, .int .i64 n0, .slice A0 l0 d0] 46)) := (Below.refl _ _).alloc (Nat.le_refl _) _
 have hb2 : Below W.heap.size W ((W.alloc (.cells #[.int .i64 k0, .int .i64 n0, .slice A0 l0 d0] 46)).alloc (.cells #[.int .i64 0, .int .i64 0, .slice none 0 0] 46)) := hb1.alloc hb1.size _
 generalize hV0 : ((W.alloc (.cells #[.int .i64 k0, .int .i64 n0, .slice A0 l0 d0] 46)).alloc (.cells #[.int .i64 0, .int .i64 0, .slice none 0 0] 46)) = V0 at hb2
 have hbx : V0.heap[W.heap.size + 1]? = some (.cells #[.int .i64 0, .int .i64 0, .slice none 0 0] 46 (0, 0)) := by rw [← hV0]; exact new2 _ _ _
 have hvx : V0.heap[W.heap.size]? = some (.cells #[.int .i64 k0, .int .i64 n0, .slice A0 l0 d0] 46 (0, 0)) := by
  rw [← hV0]
  exact (((Below.refl _ _).alloc (Nat.le_refl _) _).block W.heap.size (by simp)).trans (new1 _ _)
 have hg0 : RGo (Bx X (W.heap.size + 1)) B mb cb fv inp fuel s V0 := (RIn.bx h (by omega)).below hb2
 have hv0 := (hv.bx (b := W.heap.size + 1) (by omega)).step (KpX.below hb2) (Nat.le_refl _) (Nat.le_refl _)
 have hsz : W.heap.size + 1 < V0.heap.size := (Array.getElem?_eq_some_iff.1 hbx).1
 have HK := Lib.hid (rkey_any hv V0)
 have HS := Lib.hid (fun (V : World) (hb : Below V0.heap.size V0 V) => (rstop_any (hg0.below hb)).mono fun e w' hp => ROut.box (W := W) (b := W.heap.size + 1) h.hX h.hBW (own_lt h) (by omega) ((hb.block _ hsz).trans hbx) (Stp.below (hb2.trans (hb.mono hb2.size)) h.hBW) ⟨Nat.le_refl _, Nat.le_refl _⟩ (ROut.stop hp))
 have HC := Lib.hid (fun (V : World) (hb : Below V0.heap.size V0 V) => (show V.cell? ⟨W.heap.size, 0, none⟩ = some (.int .i64 k0) ∧ V.cell? ⟨W.heap.size, 1, none⟩ = some (.int .i64 n0) ∧ V.cell? ⟨W.heap.size, 2, none⟩ = some (.slice A0 l0 d0) ∧ V.cell? ⟨mb, 8, none⟩ = some (.bool false) ∧ V.cell? ⟨mb, 9, none⟩ = some (.int .i64 0) ∧ V.cell? ⟨mb, 10, none⟩ = some (.int .i64 0) ∧ V.cell? ⟨mb, 11, none⟩ = some (.slice none 0 0) ∧ (∀ i, V.frozen? ⟨mb, i, none⟩ = false) from by
  obtain ⟨m1, m2, m3, m6, m7, m8, m9, m10, m11, mf, mc⟩ := (hg0.below hb).cells
  have e := (hb.block _ (Nat.lt_of_succ_lt hsz)).trans hvx
  exact ⟨by simp [World.cell?, e], by simp [World.cell?, e], by simp [World.cell?, e], m8, m9, m10, m11, mf⟩))
 have HR := Lib.hid (fun (V V' : World) (k : Int) (hk : keyOf v = some k) (hb : Below V0.heap.size V0 V) (hw : V' = ((((V.setCell ⟨mb, 8, none⟩ (.bool true)).setCell ⟨mb, 9, none⟩ (.int .i64 k0)).setCell ⟨mb, 10, none⟩ (.int .i64 n0)).setCell ⟨mb, 11, none⟩ (.slice A0 l0 d0)) ∨ V' = ((((V.setCell ⟨mb, 9, none⟩ (.int .i64 k0)).setCell ⟨mb, 10, none⟩ (.int .i64 n0)).setCell ⟨mb, 11, none⟩ (.slice A0 l0 d0)).setCell ⟨mb, 8, none⟩ (.bool true))) =>
  ROut.box' (W := W) (b := W.heap.size + 1) h.hX h.hBW (own_lt h) (by omega) ((hb.block _ hsz).trans hbx) (Stp.below (hb2.trans (hb.mono hb2.size)) h.hBW) ⟨Nat.le_refl _, Nat.le_refl _⟩ (raise_out (hg0.below hb) (hv0.step (KpX.below hb) (Nat.le_refl _) (Nat.le_refl _)) hk hw))
 have hne : mb ≠ W.heap.size ∧ mb ≠ W.heap.size + 1 := by have := (own_lt h).1; omega
 have HN := Lib.hid hne
 clear h hv hb1 hb2 hg0 hv0 hne
 obtain ⟨z0, z1, z2, -⟩ := HC.out V0 (Below.refl _ _)
 obtain ⟨o, ho⟩ : ∃ o, raiseO v s = o := ⟨_, rfl⟩
 rw [ho]
 go_enter Tryz.func90, Tryz.ntmps90
 go_wp2_with fail
 refine HK.out.mono ?_
 rintro e w' (⟨k, hk, rfl, hb⟩ | ⟨hk, rfl, hb⟩)
 · obtain ⟨y0, y1, y2, m8, m9, m10, m11, mf⟩ := HC.out w' hb
   have hHR := Lib.hid (fun V' hw => HR.out w'.drew V' k hk hb.drew hw)
   obtain rfl : o = (.raised v, s) := by rw [← ho]; simp [raiseO, hk]
   have HQ := Lib.hid (show w'.cell? ⟨W.heap.size, 0, none⟩ = some (.int .i64 k0) ∧ w'.cell? ⟨W.heap.size, 1, none⟩ = some (.int .i64 n0) ∧ w'.cell? ⟨W.heap.size, 2, none⟩ = some (.slice A0 l0 d0) from ⟨y0, y1, y2⟩)
   have HSet := Lib.hid (fun (V : World) (i : Nat) (x : Value) (hq : V.cell? ⟨W.heap.size, 0, none⟩ = some (.int .i64 k0) ∧ V.cell? ⟨W.heap.size, 1, none⟩ = some (.int .i64 n0) ∧ V.cell? ⟨W.heap.size, 2, none⟩ = some (.slice A0 l0 d0)) =>
    (show (V.setCell ⟨mb, i, none⟩ x).cell? ⟨W.heap.size, 0, none⟩ = some (.int .i64 k0) ∧ (V.setCell ⟨mb, i, none⟩ x).cell? ⟨W.heap.size, 1, none⟩ = some (.int .i64 n0) ∧ (V.setCell ⟨mb, i, none⟩ x).cell? ⟨W.heap.size, 2, none⟩ = some (.slice A0 l0 d0) from
     ⟨(World.cell?_setCell_far V _ _ _ HN.out.1).trans hq.1, (World.cell?_setCell_far V _ _ _ HN.out.1).trans hq.2.1, (World.cell?_setCell_far V _ _ _ HN.out.1).trans hq.2.2⟩))
   have HD := Lib.hid (fun (V : World) (hq : V.cell? ⟨W.heap.size, 0, none⟩ = some (.int .i64 k0) ∧ V.cell? ⟨W.heap.size, 1, none⟩ = some (.int .i64 n0) ∧ V.cell? ⟨W.heap.size, 2, none⟩ = some (.slice A0 l0 d0)) => (show V.drew.cell? ⟨W.heap.size, 0, none⟩ = some (.int .i64 k0) ∧ V.drew.cell? ⟨W.heap.size, 1, none⟩ = some (.int .i64 n0) ∧ V.drew.cell? ⟨W.heap.size, 2, none⟩ = some (.slice A0 l0 d0) from hq))
   clear hb HS HC HR hk ho z0 z1 z2 HK hbx hvx hV0 hsz
   go_wp2_with fail
   go_region_held2 (fun V => V.cell? ⟨W.heap.size, 0, none⟩ = some (.int .i64 k0) ∧ V.cell? ⟨W.heap.size, 1, none⟩ = some (.int .i64 n0) ∧ V.cell? ⟨W.heap.size, 2, none⟩ = some (.slice A0 l0 d0))
    (with_reducible (refine HD.out _ ?_; first | exact HQ.out | exact HSet.out _ _ _ HQ.out | exact HSet.out _ _ _ (HSet.out _ _ _ (HSet.out _ _ _ HQ.out)) | exact HSet.out _ _ _ (HSet.out _ _ _ (HSet.out _ _ _ (HSet.out _ _ _ HQ.out))))) (fail)
   · obtain ⟨⟨f0, f1, f2, ff⟩, hR⟩ := hHR.out (((((w'.setCell ⟨mb, 8, none⟩ (.bool true)).setCell ⟨mb, 9, none⟩ (.int .i64 k0)).setCell ⟨mb, 10, none⟩ (.int .i64 n0)).setCell ⟨mb, 11, none⟩ (.slice A0 l0 d0)).drew) (.inl rfl)
     clear hHR HQ HSet HD y0 y1 y2 m8 m9 m10 m11 mf
     generalize ((((w'.setCell ⟨mb, 8, none⟩ (.bool true)).setCell ⟨mb, 9, none⟩ (.int .i64 k0)).setCell ⟨mb, 10, none⟩ (.int .i64 n0)).setCell ⟨mb, 11, none⟩ (.slice A0 l0 d0)).drew = V' at *
     have HR := Lib.hid hR
     clear hR
     go_wp2_with fail
     exact bodyPost_ret (v := zeroV) (by simp [results, Tryz.results90, go_sem, f0, f1, f2]) rfl HR.out
 · have hHS := Lib.hid (HS.out w' hb)
   obtain rfl : o = (.stuck, s) := by rw [← ho]; simp [raiseO, hk]
   clear HS HC HR hk ho z0 z1 z2
   go_wp2_with (go_at_call 49; refine hHS.out.mono ?_; rintro e w' ⟨k, n, A, l, d, rfl, ⟨f0, f1, f2, ff⟩, hR⟩; have HR := Lib.hid hR; clear hR)
   exact bodyPost_ret (v := .agg #[.int .i64 k, .int .i64 n, .slice A l d]) (by simp [results, Tryz.results90, go_sem, f0, f1, f2]) rfl HR.out
end
end Go.Proofs.YtnobggabjpcbfaaGreat
namespace Go.Proofs.YtnobggabjpcbfaaGreat
open Go.RowKit
section
variable {X Y : Nat → Prop} {B mb cb : Nat} {fv : Value} {inp : List Int} {fuel : FL} {s s1 : FSt} {cut stk rai : Bool} {x0 x1 x2 : Value} {W W' W1 W2 : World} {o : FOut}
theorem RIn.ask_ (h : RIn X B mb cb fv inp fuel s cut stk rai x0 x1 x2 W) (hl : fuel.lim < fuel.f) : RIn X B mb cb fv inp fuel.up { s with asked := s.asked + 1 } cut stk rai x0 x1 x2 (W.setCell ⟨mb, 1, none⟩ (.int .i64 ((s.asked : Int) + 1))) :=
 (h.lim_ (l := fuel.lim + 1) (by omega) (by omega)).turn (h.set 1 _) (heap_set_ne (Ne.symm h.hne) _ _) (fun Ai ci Ao co Ac cc h1 => by
  rw [heap_set_self h1 1 _]
  have : (s.asked : Int) + 1 = ((s.asked + 1 : Nat) : Int) := by omega
  rw [this]; rfl) rfl rfl rfl (Nat.le_refl _) (by have := h.askB; show s.asked + 1 + s.left ≤ fuel.lim + 1; omega)
theorem RIn.inp_ (h : RIn X B mb cb fv inp fuel s cut stk rai x0 x1 x2 W) : ∃ Ai ci, W.cell? ⟨mb, 0, none⟩ = some (.slice Ai inp.length ci) ∧ IntsIn B W Ai inp := by
 obtain ⟨Ai, ci, Ao, co, Ac, cc, h1, h2, -⟩ := h.m
 exact ⟨Ai, ci, by simp [World.cell?, h1], h2⟩
theorem rread_any (h : RGo X B mb cb fv inp fuel s W) (hlim : fuel.lim < fuel.f) :
 Calls Tryz.prog 89 #[.pointer (some ⟨mb, 0, none⟩)] W (ROut X B mb cb fv inp fuel.up s (readF inp s) W) := by
 have hb1 : Below W.heap.size W (W.alloc (.cells #[.int .i64 0, .int .i64 0, .slice none 0 0] 46)) := (Below.refl _ _).alloc (Nat.le_refl _) _
 generalize hV0 : (W.alloc (.cells #[.int .i64 0, .int .i64 0, .slice none 0 0] 46)) = V0 at hb1
 have hbx : V0.heap[W.heap.size]? = some (.cells #[.int .i64 0, .int .i64 0, .slice none 0 0] 46 (0, 0)) := by rw [← hV0]; exact new1 _ _
 have hg0 : RGo (Bx X W.heap.size) B mb cb fv inp fuel s V0 := (RIn.bx h (by omega)).below hb1
 have hg1 := hg0.ask_ hlim
 have hst1 := hg0.set 1 (.int .i64 ((s.asked : Int) + 1))
 obtain ⟨m1, m2, m3, m6, m7, m8, m9, m10, m11, mf, mc⟩ := hg0.cells
 obtain ⟨n1, n2, n3, n6, n7, n8, n9, n10, n11, nf, nc⟩ := hg1.cells
 obtain ⟨Ai, ci, n0, hin⟩ := hg1.inp_
 have hfb := h.fuelB
 have hlb := h.limB
 have hil := h.inpB
 have hal := h.askB
 have hsm : (s.asked : Int) + 1 ≤ 1000001 := by omega
 have hw : IntKind.i64.wrap ((s.asked : Int) + 1) = (s.asked : Int) + 1 := by rw [IntKind.wrap_i64]; omega
 have hne : mb ≠ W.heap.size ∧ cb ≠ W.heap.size := by have := own_lt h; omega
 have hno : ¬ Own2 mb cb W.heap.size := fun e => by rcases e with e | e <;> omega
 have hs1 : Stp B mb cb W (V0.setCell ⟨mb, 1, none⟩ (.int .i64 ((s.asked : Int) + 1))) := (Stp.below hb1 h.hBW).trans hst1
 have hbx1 := hst1.kp.same _ _ hbx rfl hno
 have hB1 : B ≤ (V0.setCell ⟨mb, 1, none⟩ (.int .i64 ((s.asked : Int) + 1))).heap.size := hg1.hBW
 have m1' : V0.cell? ⟨mb, 1, none⟩ = some (.int .i64 (s.asked : Int)) := m1
 obtain ⟨o, ho⟩ : ∃ o, readF inp s = o := ⟨_, rfl⟩
 rw [ho]
 have HX := Lib.hid h
 clear h
 go_enter Tryz.func89, Tryz.ntmps89
 go_wp2_with fail
 generalize (V0.setCell ⟨mb, 1, none⟩ (.int .i64 ((s.asked : Int) + 1))) = V1 at *
 have hn1 : V1.cell? ⟨mb, 1, none⟩ = some (.int .i64 ((s.asked : Int) + 1)) := by simpa using n1
 have HG := Lib.hid hg1
 have HS1 := Lib.hid hs1
 have HBX := Lib.hid hbx1
 have HIN := Lib.hid hin
 clear hg1 hs1 hbx1 hst1 hg0 m1 m1' m2 m3 m6 m7 m8 m9 m10 m11 mf mc n1 n2 n3 n6 n7 n8 n9 n10 n11 nc hbx hb1 hV0
 by_cases hlt : s.asked < inp.length
 · have hgt : ¬ (inp.length : Int) < (s.asked : Int) + 1 := by omega
   have hgt2 : ¬ (4096 : Int) < (s.asked : Int) + 1 := by omega
   obtain rfl : o = (.val (.int (wrap31 (nth inp s.asked))), { s with asked := s.asked + 1 }) := by rw [← ho]; simp [readF, hlt]
   obtain ⟨bi, oi, rfl, hbi, hci⟩ := HIN.out.at_ (by omega)
   have hcj := hci s.asked hlt
   have HP := Lib.hid (fun (V : World) (hb : Below V1.heap.size V1 V) => ROut.box' (X := X) (fuel := fuel.up) (W := W) (b := W.heap.size) HX.out.hX HX.out.hBW (own_lt HX.out) (Nat.le_refl _) HBX.out HS1.out ⟨Nat.le_refl _, Nat.le_refl _⟩
    (show ROut (Bx X W.heap.size) B mb cb fv inp fuel.up { s with asked := s.asked + 1 } (.val (.int (wrap31 (nth inp s.asked))), { s with asked := s.asked + 1 }) V1 (.returned (.agg #[.int .i64 1, .int .i64 (wrap31 (nth inp s.asked)), .slice none 0 0])) V from
     ⟨Stp.below hb hB1, ⟨Nat.le_refl _, Nat.le_refl _⟩, _, _, _, _, _, rfl, HG.out.below hb, .int _⟩))
   have hw2 : IntKind.i64.wrap ((s.asked : Int) + 1 - 1) = (s.asked : Int) := by rw [IntKind.wrap_i64]; omega
   have hw3 : IntKind.i64.wrap (s.asked : Int) = (s.asked : Int) := by rw [IntKind.wrap_i64]; omega
   have hj0 : (0 : Int) ≤ (s.asked : Int) := by omega
   have hjl : (s.asked : Int) < (inp.length : Int) := by omega
   clear hci hlt ho hal hlb hfb hil hsm
   generalize nth inp s.asked = x at *
   go_wp2_with fail
   go_quiet (fail)
   go_wp2_with fail
   have hbw : W.heap.size ≠ bi := by have := HX.out.hBW; omega
   have HC := Lib.hid (fun (V : World) (hb : Below V1.heap.size V1 V) => (show V.cell? ⟨mb, 0, none⟩ = some (.slice (some ⟨bi, oi, none⟩) inp.length ci) ∧ V.cell? ⟨mb, 1, none⟩ = some (.int .i64 ((s.asked : Int) + 1)) ∧ V.cell? ⟨bi, oi + s.asked, none⟩ = some (.int .i64 x) from ⟨cell_behind hb n0, cell_behind hb hn1, cell_behind hb hcj⟩))
   have HD := Lib.hid (fun (V : World) (hq : V.cell? ⟨mb, 0, none⟩ = some (.slice (some ⟨bi, oi, none⟩) inp.length ci) ∧ V.cell? ⟨mb, 1, none⟩ = some (.int .i64 ((s.asked : Int) + 1)) ∧ V.cell? ⟨bi, oi + s.asked, none⟩ = some (.int .i64 x)) => (show V.drew.cell? ⟨mb, 0, none⟩ = some (.slice (some ⟨bi, oi, none⟩) inp.length ci) ∧ V.drew.cell? ⟨mb, 1, none⟩ = some (.int .i64 ((s.asked : Int) + 1)) ∧ V.drew.cell? ⟨bi, oi + s.asked, none⟩ = some (.int .i64 x) from hq))
   have HE := Lib.hid (fun (V : World) (i : Nat) (xv : Value) (hq : V.cell? ⟨mb, 0, none⟩ = some (.slice (some ⟨bi, oi, none⟩) inp.length ci) ∧ V.cell? ⟨mb, 1, none⟩ = some (.int .i64 ((s.asked : Int) + 1)) ∧ V.cell? ⟨bi, oi + s.asked, none⟩ = some (.int .i64 x)) => (show (V.setCell ⟨W.heap.size, i, none⟩ xv).cell? ⟨mb, 0, none⟩ = some (.slice (some ⟨bi, oi, none⟩) inp.length ci) ∧ (V.setCell ⟨W.heap.size, i, none⟩ xv).cell? ⟨mb, 1, none⟩ = some (.int .i64 ((s.asked : Int) + 1)) ∧ (V.setCell ⟨W.heap.size, i, none⟩ xv).cell? ⟨bi, oi + s.asked, none⟩ = some (.int .i64 x) from ⟨(World.cell?_setCell_far V _ _ _ hne.1.symm).trans hq.1, (World.cell?_setCell_far V _ _ _ hne.1.symm).trans hq.2.1, (World.cell?_setCell_far V _ _ _ hbw).trans hq.2.2⟩))
   have HB0 := Lib.hid (show Below V1.heap.size V1 ((V1.drewN nq).drew) from (below_drewN (Below.refl _ _) nq).drew)
   have HBQ := Lib.hid (show Below V1.heap.size V1 (V1.drewN (nq + 1)) from below_drewN (Below.refl _ _) (nq + 1))
   go_region_held2 (fun V => V.cell? ⟨mb, 0, none⟩ = some (.slice (some ⟨bi, oi, none⟩) inp.length ci) ∧ V.cell? ⟨mb, 1, none⟩ = some (.int .i64 ((s.asked : Int) + 1)) ∧ V.cell? ⟨bi, oi + s.asked, none⟩ = some (.int .i64 x))
    (with_reducible (first | exact HC.out _ HB0.out | exact HC.out _ HBQ.out | exact HC.out _ HBR.out | exact HD.out _ (HE.out _ _ _ (HC.out _ HBQ.out)) | exact HD.out _ (HE.out _ _ _ (HE.out _ _ _ (HE.out _ _ _ (HC.out _ HBQ.out)))) | exact HD.out _ (HE.out _ _ _ (HC.out _ HBR.out)) | exact HE.out _ _ _ (HE.out _ _ _ (HE.out _ _ _ (HC.out _ HBR.out)))))
    ((first
     | (go_at_call 23; refine (rwrap_any _ _).mono ?_; rintro e w' ⟨rfl, rfl⟩)
     | (go_at_call 73; refine (vint_any _ _).mono ?_; rintro e w' ⟨rfl, hbi⟩; have HBR := Lib.hid (HBQ.out.trans (hbi.mono HBQ.out.size)); obtain ⟨⟨f0, f1, f2, ff⟩, hR⟩ := HP.out _ HBR.out; have HR := Lib.hid hR; clear hR)))
   go_wp2_with fail
   exact bodyPost_ret (v := .agg #[.int .i64 1, .int .i64 (wrap31 x), .slice none 0 0]) (by simp [results, Tryz.results89, go_sem, f0, f1, f2]) rfl HR.out
 · have hgt : (inp.length : Int) < (s.asked : Int) + 1 := by omega
   obtain rfl : o = (.raised (.int 1), { s with asked := s.asked + 1 }) := by rw [← ho]; simp [readF, hlt]
   have HR := Lib.hid (fun (V : World) (hb : Below V1.heap.size V1 V) => (rraise_any (HG.out.below hb) (.int 1)).mono fun e w' hp => ROut.box (X := X) (fuel := fuel.up) (W := W) (b := W.heap.size) HX.out.hX HX.out.hBW (own_lt HX.out) (Nat.le_refl _) ((hb.block _ (Array.getElem?_eq_some_iff.1 HBX.out).1).trans HBX.out) (HS1.out.trans (Stp.below hb hB1)) ⟨Nat.le_refl _, Nat.le_refl _⟩ hp)
   clear hlt ho hal hlb hfb hil hsm
   go_wp2_with fail
   go_quiet (fail)
   have HBQ := Lib.hid (show Below V1.heap.size V1 (V1.drewN nq) from below_drewN (Below.refl _ _) nq)
   go_wp2_with (first
    | (go_at_call 73; refine (vint_any _ _).mono ?_; rintro e w' ⟨rfl, hbi⟩; have HRR := Lib.hid (HR.out _ (HBQ.out.trans (hbi.mono HBQ.out.size))))
    | (go_at_call 90; refine HRR.out.mono ?_; rintro e w' ⟨k, n, A, l, d, rfl, ⟨f0, f1, f2, ff⟩, hR⟩; have HR := Lib.hid hR; clear hR))
   exact bodyPost_ret (v := .agg #[.int .i64 k, .int .i64 n, .slice A l d]) (by simp [results, Tryz.results89, go_sem, f0, f1, f2]) rfl HR.out
end
end Go.Proofs.YtnobggabjpcbfaaGreat
