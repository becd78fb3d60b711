/-
  6 texts of this seat in one: H11 H12 H13 H14 H15 H16.
-/
import Derived.Test.YtnobggabjpcbfaaQM3
import Derived.Test.YtnobggabjpcbfaaQM2
/-
  The flat evaluator: primitives on two ints; print; try.
-/
set_option linter.unusedVariables false
set_option linter.unusedSimpArgs false
namespace Go.Proofs.Ytnobggabjpcbfaa
open Go.RowKit

theorem infoInt : (Try.prog.info? 3).map (fun i => (i.zero, i.size, i.bytes)) = some (some (.int .i64 0), 1, 8) := by kernel_rfl
theorem undInts : Try.prog.underlying 30 = some (.slice 3) := by kernel_rfl
section
variable {rb B : Nat} {p : FlatP} {inp : List Int} {fuel n : Nat} {s : FSt} {m : Mem} {W : World}

def arithP (p : Int) (a b : PV) (s : FSt) : FOut :=
  match numOf a, numOf b with
  | some x, some y => (match doP p x y with | some n => (.val (.int n), s) | none => (.raised (.int 0), s))
  | _, _ => (.stuck, s)

set_option maxRecDepth 100000 in
set_option maxHeartbeats 2000000 in
theorem prim_arith (hg : Good rb B p inp fuel s m W) {q : Int} (hp1 : 1 ≤ q) (hp9 : q ≤ 9) {a b : PV} {T U : TypeId} {x y : Value} (ha : RepV rb m W a (.iface T x)) (hb : RepV rb m W b (.iface U y)) {g cap : Nat} (c0 : W.cell? ⟨g, 0, none⟩ = some (.iface T x)) (c1 : W.cell? ⟨g, 1, none⟩ = some (.iface U y)) :
    Calls Try.prog 67 #[.pointer (some ⟨rb, 0, none⟩), .int .i64 q, .slice (some ⟨g, 0, none⟩) 2 cap] W (EvPost rb B p inp fuel m W (arithP q a b s)) := by
  have e10 : (q == 10) = false := by simp; omega
  have e11 : (q == 11) = false := by simp; omega
  have e12 : (q == 12) = false := by simp; omega
  have e13 : (q == 13) = false := by simp; omega
  have e14 : (q == 14) = false := by simp; omega
  have e15 : (q == 15) = false := by simp; omega
  have e16 : (q == 16) = false := by simp; omega
  have hd : Evo rb m m W W.drew := (Evo.refl _ _ _).drew
  have HA := Lib.hid (cnumber_any (ha.evo hd))
  have HB := Lib.hid (cnumber_any (hb.evo hd))
  have HS := Lib.hid (fun (h : numOf a = none ∨ numOf b = none) => (show EvPost rb B p inp fuel m W (arithP q a b s) (.panicked (stopV 4)) W.drew from by
    have : arithP q a b s = (.stuck, s) := by
      unfold arithP
      rcases h with h | h
      · rw [h]
      · rw [h]; cases numOf a <;> rfl
    rw [this]
    exact EvPost.stuck hd (hg.below (Below.refl _ _).drew) (thrown_one _ _)))
  have HV := Lib.hid (fun (i j k : Int) (hi : numOf a = some i) (hj : numOf b = some j) (w' : World) (hw : Below W.heap.size W w') (hk : doP q i j = some k) => (show EvPost rb B p inp fuel m W (arithP q a b s) (.returned (.iface 90 (.int .i64 k))) w' from by
    have : arithP q a b s = (.val (.int k), s) := by unfold arithP; rw [hi, hj]; simp [hk]
    rw [this]
    exact EvPost.val (Evo.below hw) (hg.below hw) (.int k)))
  have HR := Lib.hid (fun (i j : Int) (hi : numOf a = some i) (hj : numOf b = some j) (w' : World) (hw : Below W.heap.size W w') (hk : doP q i j = none) => (show EvPost rb B p inp fuel m W (arithP q a b s) (.panicked (raisedV (.iface 90 (.int .i64 0)))) w' from by
    have : arithP q a b s = (.raised (.int 0), s) := by unfold arithP; rw [hi, hj]; simp [hk]
    rw [this]
    exact EvPost.raised (Evo.below hw) (hg.below hw) (.int 0) ⟨0, rfl⟩ (thrown_one _ _)))
  generalize arithP q a b s = o at *
  have HD := Lib.hid (fun (i j : Int) => do_any q i j hp1 hp9 W.drew)
  clear hg ha hb hd hp1 hp9
  go_enter Try.func67, Try.ntmps67
  go_wp2_with fail
  go_region_held2 (fun w' => w'.cell? ⟨g, 0, none⟩ = some (.iface T x) ∧ w'.cell? ⟨g, 1, none⟩ = some (.iface U y)) (exact ⟨c0, c1⟩)
    ((first
      | (go_at_call 71; (with_reducible refine HA.out.mono ?_); rintro e w' (⟨i, hi, rfl, rfl⟩ | ⟨hi, rfl, rfl⟩); rotate_left; exact ⟨rfl, HS.out (.inl hi)⟩)
      | (go_at_call 71; (with_reducible refine HB.out.mono ?_); rintro e w' (⟨j, hj, rfl, rfl⟩ | ⟨hj, rfl, rfl⟩); rotate_left; exact ⟨rfl, HS.out (.inr hj)⟩)))
  go_wp2_with fail
  refine (HD.out i j).mono ?_
  rintro e w' (⟨k, hk, rfl, hw⟩ | ⟨hk, rfl, hw⟩)
  · go_wp2_with fail
    go_ret
    exact HV.out i j k hi hj _ ⟨hw.os, hw.tape, hw.output, hw.size, hw.block⟩ hk
  · go_wp2_with fail
    exact ⟨rfl, HR.out i j hi hj _ ⟨hw.os, hw.tape, hw.output, hw.size, hw.block⟩ hk⟩

theorem ownsRow_shape {w : World} {base : Nat} {e : TypeId} {size : Nat} {v : Value} {n : Nat} {xs : List Value} (h : w.ownsRow base e size v n xs) : ∃ A k c, v = .slice A k c := by
  rcases h.2 with ⟨rfl, _⟩ | ⟨g, cap, cur, rfl, _⟩ <;> exact ⟨_, _, _, rfl⟩

set_option maxRecDepth 100000 in
set_option maxHeartbeats 2000000 in
theorem prim_print (hg : Good rb B p inp fuel s m W) (hs : s.out.length + s.left < fuel) {a : PV} {T : TypeId} {x : Value} (ha : RepV rb m W a (.iface T x)) {g cap : Nat} (hgr : g ≠ rb) (c0 : W.cell? ⟨g, 0, none⟩ = some (.iface T x)) :
    Calls Try.prog 67 #[.pointer (some ⟨rb, 0, none⟩), .int .i64 13, .slice (some ⟨g, 0, none⟩) 1 cap] W (EvPost rb B p inp fuel m W (match numOf a with | some k => (.val (.int 0), { s with out := s.out ++ [k] }) | none => (.stuck, s))) := by
  have hd : Evo rb m m W W.drew := (Evo.refl _ _ _).drew
  have HA := Lib.hid (cnumber_any (ha.evo hd))
  obtain ⟨i0, hinf, hz0, hz1, hz2⟩ := info_parts infoInt
  have hS := Lib.hid (fun (h : numOf a = none) => (show EvPost rb B p inp fuel m W (match numOf a with | some k => (.val (.int 0), { s with out := s.out ++ [k] }) | none => (.stuck, s)) (.panicked (stopV 4)) W.drew from by
    rw [h]
    exact EvPost.stuck hd (hg.below (Below.refl _ _).drew) (thrown_one _ _)))
  have HV := Lib.hid (fun (k : Int) (hk : numOf a = some k) (w1 : World) (v' : Value) (h1 : w1.ownsRow B 3 1 v' (s.out.length + 1) (s.out.map (Value.int .i64) ++ [.int .i64 k])) (h2 : (W.drew.alloc (.cells #[.int .i64 k] 3)).grownBy w1 m.vo.ownBlock)
      (hat : v'.ownBlock = m.vo.ownBlock ∨ v'.ownBlock = some (W.drew.alloc (.cells #[.int .i64 k] 3)).heap.size) => (show EvPost rb B p inp fuel m W (match numOf a with | some k => (.val (.int 0), { s with out := s.out ++ [k] }) | none => (.stuck, s)) (.returned (.iface 90 (.int .i64 0))) (w1.setCell ⟨rb, 8, none⟩ v') from by
    obtain ⟨q1, q2⟩ := hg.print hs ((Below.refl _ W).drew.alloc (Nat.le_refl _) (.cells #[.int .i64 k] 3)) h1 h2 hat
    rw [hk]
    exact EvPost.val q2 q1 (.int 0)))
  generalize (match numOf a with | some k => ((.val (.int 0), { s with out := s.out ++ [k] }) : FOut) | none => (.stuck, s)) = o at *
  obtain ⟨f0, f1, f2, f3, Ai, ci, hr, hfl, hii, hci⟩ := hg.run
  have cr : W.cell? ⟨rb, 8, none⟩ = some m.vo := by simp [World.cell?, hr]
  have fr : W.frozen? ⟨rb, 8, none⟩ = false := by simp [World.frozen?, hr]
  have hrbl := World.block_lt_of_cell? _ _ cr
  have hown := hg.out
  have hon := hg.rbo
  have hlen : s.out.length ≤ 1000000 := by have := hg.fuelB; have := hg.bnd; omega
  have hBs := hg.Bs
  have hgl := World.block_lt_of_cell? _ _ c0
  have hown2 : ∀ i : Int, ((W.alloc (.cells #[.int .i64 i] 3)).drew).ownsRow B 3 1 m.vo s.out.length (s.out.map (Value.int .i64)) := fun i => World.ownsRow.drew (World.ownsRow.alloc hown _)
  have hcr2 : ∀ i : Int, ((W.alloc (.cells #[.int .i64 i] 3)).drew).cell? ⟨rb, 8, none⟩ = some m.vo := fun i => (World.cell?_alloc_lt W _ _ hrbl).trans cr
  have hfr2 : ∀ i : Int, ((W.alloc (.cells #[.int .i64 i] 3)).drew).frozen? ⟨rb, 8, none⟩ = false := fun i => (((Below.refl _ W).alloc (Nat.le_refl _) (.cells #[.int .i64 i] 3)).frozen (p := ⟨rb, 8, none⟩) hrbl).trans fr
  replace hrbl : rb < W.heap.size := hrbl
  replace hgl : g < W.heap.size := hgl
  have hrl2 : ∀ i : Int, rb < ((W.alloc (.cells #[.int .i64 i] 3)).drew).heap.size := fun i => (show rb < (W.alloc (.cells #[.int .i64 i] 3)).heap.size from by rw [World.size_alloc]; omega)
  have hrn : some rb ≠ m.vo.ownBlock := fun e => hon e.symm
  clear hg ha hd hs hr hfl hii hci
  generalize m.vo = vo at *
  generalize s.out.length = L at *
  go_enter Try.func67, Try.ntmps67
  go_wp2_with fail
  go_region_law ((first
      | (go_simp; refine HA.out.mono ?_; rintro e w' (⟨i, hi, rfl, rfl⟩ | ⟨hi, rfl, rfl⟩); rotate_left; exact ⟨rfl, hS.out hi⟩)
      | (rw [if_pos (by rfl)]; refine wp_append_at _ _ _ 30 rfl B 3 i0 (.int .i64 0) 1 8 undInts hinf hz0 hz1 hz2 rfl (by decide) _ _ _ rfl (hown2 _) ⟨_, 0, none⟩ 1 1 [.int .i64 _] rfl rfl (cell_one_new _ _ _) (by simp [Value.oneCell']) (by simp only [maxLen]; omega) (by omega) (by simp; omega) ?_; intro v' w1 hown' hgrow hat; obtain ⟨A', n', c', rfl⟩ := ownsRow_shape hown'; have k1 := hgrow.cell (hcr2 _) hrn; have k2 := (World.frozen?_of_block (hgrow.block rb (hrl2 _) hrn)).trans (hfr2 _))))
  all_goals (go_wp2_with fail; go_ret; exact HV.out _ hi _ _ hown' hgrow hat)

def afterTry (funs : List FFun) (rec : Anf → PEnv → FSt → FOut) (b : PV) (o : FOut) : FOut := match o with | (.raised v, s') => callF funs rec b v s' | o => o
def tryP (funs : List FFun) (rec : Anf → PEnv → FSt → FOut) (a b : PV) (s : FSt) : FOut := afterTry funs rec b (callF funs rec a (.int 0) s)

set_option maxRecDepth 100000 in
set_option maxHeartbeats 2000000 in
theorem prim_try (hok : BodyOk rb B p inp fuel n) (hwf : ∀ g ∈ p.funs, WfA p.funs.length g.body) (hg : Good rb B p inp fuel s m W) (hn : s.left ≤ n) {a b : PV} {T U : TypeId} {x y : Value} (ha : RepV rb m W a (.iface T x)) (hb : RepV rb m W b (.iface U y)) {g cap : Nat} (hgl : g < W.heap.size) (hgm : ¬ m.mut rb g) (c0 : W.cell? ⟨g, 0, none⟩ = some (.iface T x)) (c1 : W.cell? ⟨g, 1, none⟩ = some (.iface U y)) :
    Calls Try.prog 67 #[.pointer (some ⟨rb, 0, none⟩), .int .i64 16, .slice (some ⟨g, 0, none⟩) 2 cap] W (EvPost rb B p inp fuel m W (tryP p.funs (evF p.funs inp n) a b s)) := by
  have HC := Lib.hid (caught_any hok hwf a s m W _ ha hg hn)
  have hle := callF_le (funs := p.funs) (evF_le p.funs inp n) a (.int 0) s
  have H2 := Lib.hid (fun (v : PV) (s' : FSt) (m' : Mem) (W' : World) (gv : Value) (hs : s'.left ≤ s.left) (hk : Evo rb m m' W W') (hg' : Good rb B p inp fuel s' m' W') (hv : RepV rb m' W' v gv) =>
    (call_any hok hwf b v (hb.evo hk) hv hg' (by omega)).mono fun e V h => EvPost.from_ hk h)
  have HK := Lib.hid (fun (m' : Mem) (W' : World) (hk : Evo rb m m' W W') => (show W'.cell? ⟨g, 1, none⟩ = some (.iface U y) from (cell_of_heap (hk.same g hgl hgm) 1).trans c1))
  unfold tryP
  generalize callF p.funs (evF p.funs inp n) a (.int 0) s = o at *
  clear hok hwf hg hn ha hb
  go_enter Try.func67, Try.ntmps67
  go_wp2_with fail
  refine HC.out.mono ?_
  intro e V h
  cases h with
  | val hk hg' hv =>
    have HP := Lib.hid (EvPost.val hk hg' hv)
    go_wp2_with fail
    go_ret
    exact HP.out
  | @raised v s' m' _ gv hk hg' hv =>
    have k1 := HK.out _ _ hk
    have HD := Lib.hid (H2.out v s' m' V gv hle.left hk hg' hv)
    clear hk hg' hv hle
    go_wp2_with fail
    refine HD.out.mono ?_
    intro e V' h
    rcases h.ends with ⟨g', rfl, hP⟩ | ⟨ch, rfl, hP⟩
    · go_wp2_with fail
      go_ret
      exact (show EvPost rb B p inp fuel m W (callF p.funs (evF p.funs inp n) b v s') _ _ from hP)
    · exact ⟨rfl, (show EvPost rb B p inp fuel m W (callF p.funs (evF p.funs inp n) b v s') _ _ from hP)⟩
  | stuck hk hg' hth => exact ⟨rfl, EvPost.stuck hk hg' hth⟩
  | cut hk hg' hth => exact ⟨rfl, EvPost.cut hk hg' hth⟩

/-- what a primitive is handed -/
structure ArgsIn (rb : Nat) (m : Mem) (W : World) (l : List PV) (g cap : Nat) (F : Nat → Value) : Prop where
  lt : g < W.heap.size
  still : ¬ m.mut rb g
  cells : ∀ j, j < l.length → W.cell? ⟨g, j, none⟩ = some (F j)
  rep : ∀ j (h : j < l.length), RepV rb m W l[j] (F j)

theorem arithP_eq (funs : List FFun) (inp : List Int) (rec : Anf → PEnv → FSt → FOut) (q : Int) (h9 : q ≤ 9) (a b : PV) (s : FSt) : primF funs inp rec q [a, b] s = arithP q a b s := by
  unfold primF arithP
  simp only []
  rw [if_neg (by omega), if_neg (by omega), if_neg (by omega), if_neg (by omega), if_neg (by omega), if_neg (by omega), if_neg (by omega)]
  cases a <;> cases b <;> rfl

theorem prim_any (hok : BodyOk rb B p inp fuel n) (hwf : ∀ g ∈ p.funs, WfA p.funs.length g.body) (hg : Good rb B p inp fuel s m W) (hn : s.left ≤ n) (hs : s.out.length + s.left < fuel) {q : Int} (hp1 : 1 ≤ q) (hp2 : q ≤ 16) {l : List PV} {g cap : Nat} {F : Nat → Value} (hl : l.length = if twoF q then 2 else 1) (ha : ArgsIn rb m W l g cap F) :
    Calls Try.prog 67 #[.pointer (some ⟨rb, 0, none⟩), .int .i64 q, .slice (some ⟨g, 0, none⟩) l.length cap] W (EvPost rb B p inp fuel m W (primF p.funs inp (evF p.funs inp n) q l s)) := by
  have hst : ∀ e w', e = .panicked (stopV 4) ∧ W = w' → EvPost rb B p inp fuel m W (.stuck, s) e w' := fun e w' h => by
    obtain ⟨rfl, rfl⟩ := h
    exact .stuck (Evo.refl _ _ _) hg (thrown_one _ _)
  have hgr : g ≠ rb := fun e => ha.still (.inl e)
  match l, hl, ha with
  | [], hl, ha => exfalso; simp at hl; split at hl <;> omega
  | [a], hl, ha =>
    have r0 := ha.rep 0 (by simp)
    have k0 := ha.cells 0 (by simp)
    obtain ⟨T, x, hF⟩ := r0.shape
    simp only [List.getElem_cons_zero] at r0
    rw [hF] at r0 k0
    have ht : twoF q = false := by cases h : twoF q <;> simp [h] at hl ⊢
    have hcase : q = 10 ∨ q = 11 ∨ q = 13 ∨ q = 14 ∨ q = 15 := by simp [twoF] at ht; omega
    rcases hcase with rfl | rfl | rfl | rfl | rfl
    · exact prim_ref hg r0 k0
    · cases a with
      | ref i =>
        cases r0
        rename_i b hb
        exact prim_get_ref hg hb k0
      | int k => cases r0; exact (prim_cell_other (.inl ⟨rfl, rfl⟩) _ (.inl rfl) _ k0 _).mono hst
      | blk t l => cases r0; exact (prim_cell_other (.inl ⟨rfl, rfl⟩) _ (.inr (.inl rfl)) _ k0 _).mono hst
      | fn i => cases r0; exact (prim_cell_other (.inl ⟨rfl, rfl⟩) _ (.inr (.inr rfl)) _ k0 _).mono hst
    · refine (prim_print hg hs r0 hgr k0).mono fun e w' h => ?_
      cases a <;> exact h
    · show Calls _ _ _ _ (EvPost rb B p inp fuel m W (readF inp s))
      unfold readF
      split
      · exact prim_read_some hg (by assumption) _
      · exact prim_read_none hg (by omega) _
    · refine (prim_raise hg r0 k0).mono fun e w' h => ?_
      exact h
  | [a, b], hl, ha =>
    have r0 := ha.rep 0 (by simp)
    have k0 := ha.cells 0 (by simp)
    have r1 := ha.rep 1 (by simp)
    have k1 := ha.cells 1 (by simp)
    obtain ⟨T, x, hF⟩ := r0.shape
    obtain ⟨U, y, hF1⟩ := r1.shape
    simp only [List.getElem_cons_zero, List.getElem_cons_succ] at r0 r1
    rw [hF] at r0 k0
    rw [hF1] at r1 k1
    have ht : twoF q = true := by cases h : twoF q <;> simp [h] at hl ⊢
    have hcase : q ≤ 9 ∨ q = 12 ∨ q = 16 := by simp [twoF] at ht; omega
    rcases hcase with h9 | rfl | rfl
    · rw [arithP_eq _ _ _ _ h9]
      exact prim_arith hg hp1 h9 r0 r1 k0 k1
    · cases a with
      | ref i =>
        cases r0
        rename_i b' hb
        exact prim_set_ref hg hb r1 k0 k1
      | int k => cases r0; exact (prim_cell_other (.inr ⟨rfl, rfl⟩) _ (.inl rfl) _ k0 _).mono hst
      | blk t l => cases r0; exact (prim_cell_other (.inr ⟨rfl, rfl⟩) _ (.inr (.inl rfl)) _ k0 _).mono hst
      | fn i => cases r0; exact (prim_cell_other (.inr ⟨rfl, rfl⟩) _ (.inr (.inr rfl)) _ k0 _).mono hst
    · exact prim_try hok hwf hg hn r0 r1 ha.lt ha.still k0 k1
  | _ :: _ :: _ :: _, hl, ha => exfalso; simp at hl; split at hl <;> omega
end
end Go.Proofs.Ytnobggabjpcbfaa

/-
  The flat evaluator: fields.
-/
set_option linter.unusedVariables false
set_option linter.unusedSimpArgs false
namespace Go.Proofs.Ytnobggabjpcbfaa
open Go.RowKit

section
variable {rb B : Nat} {p : FlatP} {inp : List Int} {fuel n : Nat} {s : FSt} {m : Mem} {W : World}
def FieldPost (rb : Nat) (m : Mem) (W : World) (s : FSt) (o : FOut) (e : Ending) (w' : World) : Prop := (∃ v T x, o = (.val v, s) ∧ e = .returned (.iface T x) ∧ RepV rb m W v (.iface T x) ∧ W = w') ∨ (o = (.stuck, s) ∧ e = .panicked (stopV 4) ∧ W = w')
theorem field_none (T : TypeId) (hT : T = 90 ∨ T = 117) (x : Value) (k : Nat) :
    Calls Try.prog 65 #[.iface T x, .int .i64 (k : Int)] W fun e w' => e = .panicked (stopV 4) ∧ W = w' := by
  have hk0 : ¬ (k : Int) < 0 := by omega
  have hk1 : (0 : Int) ≤ (k : Int) := by omega
  rcases hT with rfl | rfl
  all_goals
    go_enter Try.func65, Try.ntmps65
    go_wp2_with (go_at_call 50; refine (stuck_any _).mono ?_; rintro e w' ⟨rfl, rfl⟩)
    exact ⟨rfl, rfl, rfl⟩
theorem field_blk {b L cap : Nat} {A : Option Addr} (c : W.cell? ⟨b, 1, none⟩ = some (.slice A L cap)) (k : Nat) :
    (∀ g T x, k < L → A = some ⟨g, 0, none⟩ → L ≤ cap → W.cell? ⟨g, k, none⟩ = some (.iface T x) → Calls Try.prog 65 #[.iface 91 (.pointer (some ⟨b, 0, none⟩)), .int .i64 (k : Int)] W fun e w' => e = .returned (.iface T x) ∧ W = w') ∧
    (¬ k < L → Calls Try.prog 65 #[.iface 91 (.pointer (some ⟨b, 0, none⟩)), .int .i64 (k : Int)] W fun e w' => e = .panicked (stopV 4) ∧ W = w') := by
  have hk0 : ¬ (k : Int) < 0 := by omega
  have hk1 : (0 : Int) ≤ (k : Int) := by omega
  constructor
  · rintro g T x hk rfl hc hcell
    have hk2 : ¬ (L : Int) ≤ (k : Int) := by omega
    have hk3 : (k : Int) < (L : Int) := by omega
    go_enter Try.func65, Try.ntmps65
    go_wp2_with fail
    go_ret
    exact ⟨rfl, rfl⟩
  · intro hk
    have hk2 : (L : Int) ≤ (k : Int) := by omega
    go_enter Try.func65, Try.ntmps65
    go_wp2_with (go_at_call 50; refine (stuck_any _).mono ?_; rintro e w' ⟨rfl, rfl⟩)
    exact ⟨rfl, rfl, rfl⟩
theorem field_fn {b L cap : Nat} {A : Option Addr} (c : W.cell? ⟨b, 1, none⟩ = some (.slice A L cap)) (k : Int) (h0 : 0 ≤ k) (h255 : k ≤ 255) :
    (∀ (j : Nat) (g o : Nat) T x, k = (j : Int) + 1 → j < L → A = some ⟨g, o, none⟩ → L ≤ cap → W.cell? ⟨g, o + j, none⟩ = some (.iface T x) → Calls Try.prog 65 #[.iface 109 (.pointer (some ⟨b, 0, none⟩)), .int .i64 k] W fun e w' => e = .returned (.iface T x) ∧ W = w') ∧
    (¬ (1 ≤ k ∧ k ≤ L) → Calls Try.prog 65 #[.iface 109 (.pointer (some ⟨b, 0, none⟩)), .int .i64 k] W fun e w' => e = .panicked (stopV 4) ∧ W = w') := by
  have hw : IntKind.i64.wrap (k - 1) = k - 1 := by rw [IntKind.wrap_i64]; omega
  constructor
  · rintro j g o T x hkj hk rfl hc hcell
    obtain ⟨q, hq⟩ : ∃ q : Int, k - 1 = q := ⟨_, rfl⟩
    have hqj : q = (j : Int) := by omega
    subst hqj
    have hk0 : ¬ (j : Int) < 0 := by omega
    have hk1 : (0 : Int) ≤ (j : Int) := by omega
    have hk2 : ¬ (L : Int) ≤ (j : Int) := by omega
    have hk3 : (j : Int) < (L : Int) := by omega
    rw [hq] at hw
    have hw2 : IntKind.i64.wrap (k - 1) = (j : Int) := by rw [hq]; exact hw
    clear hkj h0 h255 hq hw
    go_enter Try.func65, Try.ntmps65
    go_wp2_with fail
    go_ret
    exact ⟨rfl, rfl⟩
  · intro hk
    by_cases hk0 : k < 1
    · have hq : k - 1 < 0 := by omega
      go_enter Try.func65, Try.ntmps65
      go_wp2_with (go_at_call 50; refine (stuck_any _).mono ?_; rintro e w' ⟨rfl, rfl⟩)
      exact ⟨rfl, rfl, rfl⟩
    · have hq : ¬ k - 1 < 0 := by omega
      have hq2 : (L : Int) ≤ k - 1 := by omega
      go_enter Try.func65, Try.ntmps65
      go_wp2_with (go_at_call 50; refine (stuck_any _).mono ?_; rintro e w' ⟨rfl, rfl⟩)
      exact ⟨rfl, rfl, rfl⟩
theorem field_any (hg : Good rb B p inp fuel s m W) {v : PV} {gv : Value} (hv : RepV rb m W v gv) {k : Int} (h0 : 0 ≤ k) (h255 : k ≤ 255) :
    Calls Try.prog 65 #[gv, .int .i64 k] W (FieldPost rb m W s (fieldF v k s)) := by
  obtain ⟨j, rfl⟩ : ∃ j : Nat, k = (j : Int) := ⟨k.toNat, by omega⟩
  cases hv with
  | int a => exact (field_none _ (.inl rfl) _ j).mono fun e w' ⟨h1, h2⟩ => .inr ⟨rfl, h1, h2⟩
  | ref h => exact (field_none _ (.inr rfl) _ j).mono fun e w' ⟨h1, h2⟩ => .inr ⟨rfl, h1, h2⟩
  | @blk tag kids b g cap F hb hgl hgm hl hp h8 hc hk =>
    have c1 := at_cell0 hb (i := 1) rfl
    simp only [List.getElem_toArray, List.getElem_cons_zero, List.getElem_cons_succ] at c1
    by_cases hj : j < kids.length
    · have hr := hk j hj
      obtain ⟨T, x, hF⟩ := hr.shape
      rw [hF] at hr
      refine ((field_blk c1 j).1 g T x hj rfl hl (by rw [hc j hj, hF])).mono fun e w' ⟨h1, h2⟩ => .inl ⟨kids[j], T, x, ?_, h1, hr, h2⟩
      have : (0 : Int) ≤ (j : Int) ∧ (j : Int) < (kids.length : Int) := by omega
      simp [fieldF, this, hj]
    · refine ((field_blk c1 j).2 hj).mono fun e w' ⟨h1, h2⟩ => .inr ⟨?_, h1, h2⟩
      have : ¬ ((0 : Int) ≤ (j : Int) ∧ (j : Int) < (kids.length : Int)) := by omega
      simp [fieldF, this, hj]
  | @fn i b h =>
    have hlen : i < s.made.length := by rw [← hg.falen]; exact (List.getElem?_eq_some_iff.1 h).1
    obtain ⟨b', A, cap, h1, h2, h3, h4, h5, h6⟩ := hg.fns i hlen
    rw [h] at h1; cases h1
    have c1 := at_cell0 h2 (i := 1) rfl
    simp only [List.getElem_toArray, List.getElem_cons_zero, List.getElem_cons_succ] at c1
    by_cases hj : (1 : Int) ≤ (j : Int) ∧ (j : Int) ≤ (s.made[i].2.length : Int)
    · obtain ⟨q, rfl⟩ : ∃ q, j = q + 1 := ⟨j - 1, by omega⟩
      have hq : q < s.made[i].2.length := by omega
      obtain ⟨g, o, F, rfl, hgl, hgm, hc, hr⟩ := h5 (by omega)
      have hrr := hr q hq
      obtain ⟨T, x, hF⟩ := hrr.shape
      rw [hF] at hrr
      refine ((field_fn c1 _ h0 h255).1 q g o T x (by simp) hq rfl h3 (by rw [hc q hq, hF])).mono fun e w' ⟨h1, h2⟩ => .inl ⟨s.made[i].2[q], T, x, ?_, h1, hrr, h2⟩
      unfold fieldF
      simp only [List.getElem?_eq_getElem hlen, Option.getD_some]
      rw [if_pos hj]
      simp [hq]
    · refine ((field_fn c1 _ h0 h255).2 hj).mono fun e w' ⟨h1, h2⟩ => .inr ⟨?_, h1, h2⟩
      unfold fieldF
      simp only [List.getElem?_eq_getElem hlen, Option.getD_some]
      rw [if_neg hj]
end
end Go.Proofs.Ytnobggabjpcbfaa

/-
  The flat evaluator: closures that know one another: what lies in memory while they are made.
-/
set_option linter.unusedVariables false
set_option linter.unusedSimpArgs false
namespace Go.Proofs.Ytnobggabjpcbfaa
open Go.RowKit

def Persist (w w' : World) : Prop := ∀ (b : Nat) (cs : Array Value) (T : TypeId) (fr : Nat × Nat), T = 111 ∨ T = 99 → w.heap[b]? = some (.cells cs T fr) → w'.heap[b]? = some (.cells cs T fr)
theorem Persist.trans {a b c : World} (h : Persist a b) (k : Persist b c) : Persist a c := fun i cs T fr hT hh => k i cs T fr hT (h i cs T fr hT hh)
theorem Persist.below {w w' : World} (h : Below w.heap.size w w') : Persist w w' := fun b cs T fr _ hh => (h.block b (Array.getElem?_eq_some_iff.1 hh).1).trans hh
theorem Persist.alloc (w : World) (o : Obj) : Persist w (w.alloc o) := Persist.below ((Below.refl w.heap.size w).alloc (Nat.le_refl _) o)
theorem Persist.grown {w w' : World} {base : Nat} {v : Value} {n : Nat} {xs : List Value} (ho : w.ownsRow base 109 1 v n xs) (hg : w.grownBy w' v.ownBlock) : Persist w w' := fun b cs T fr hT hh => by
  refine (hg.block b (Array.getElem?_eq_some_iff.1 hh).1 ?_).trans hh
  rcases ho.2 with ⟨rfl, _⟩ | ⟨g, cap, cur, rfl, _, hgg, _⟩
  · simp [Value.ownBlock]
  · simp only [Value.ownBlock, ne_eq, Option.some.injEq]
    rintro rfl
    have := hh.symm.trans hgg
    simp only [Option.some.injEq, Obj.cells.injEq] at this
    rcases hT with rfl | rfl
    · exact absurd this.2.1 (by decide)
    · exact absurd this.2.1 (by decide)

/-- the links that were made -/
inductive LinkIn (n0 : Nat) (w : World) (ks : List Int) (bs : List Nat) (ge : Value) : Nat → Value → Prop
  | zero : LinkIn n0 w ks bs ge 0 ge
  | succ {k : Nat} {gp : Value} {b f : Nat} (h : LinkIn n0 w ks bs ge k gp) (hlo : n0 ≤ b) (hf : bs[k]? = some f)
      (hb : w.heap[b]? = some (.cells #[.int .i64 (nth ks (3 * k)), .iface 109 (.pointer (some ⟨f, 0, none⟩)), gp] 99 (0, 0))) : LinkIn n0 w ks bs ge (k + 1) (.pointer (some ⟨b, 0, none⟩))
theorem LinkIn.persist {n0 : Nat} {w w' : World} {ks : List Int} {bs bs' : List Nat} {ge : Value} (hp : ∀ (b : Nat) (cs : Array Value) (fr : Nat × Nat), w.heap[b]? = some (.cells cs 99 fr) → w'.heap[b]? = some (.cells cs 99 fr)) (hbs : bs <+: bs') {k : Nat} {gp : Value} (h : LinkIn n0 w ks bs ge k gp) : LinkIn n0 w' ks bs' ge k gp := by
  induction h with
  | zero => exact .zero
  | succ _ hlo hf hb ih => exact .succ ih hlo (prefix_get hbs hf) (hp _ _ _ hb)
theorem LinkIn.shape {n0 : Nat} {w : World} {ks : List Int} {bs : List Nat} {ge : Value} (hge : ∃ p, ge = .pointer p) {k : Nat} {gp : Value} (h : LinkIn n0 w ks bs ge k gp) : ∃ p, gp = .pointer p := by
  cases h with
  | zero => exact hge
  | succ => exact ⟨_, rfl⟩

/-- closures that were made so far -/
structure FixIn (W0 wr : World) (ks : List Int) (ge : Value) (k : Nat) (hv : Nat → Value) (bs : List Nat) (v gp : Value) : Prop where
  below : Below W0.heap.size W0 wr
  len : bs.length = k
  lo : ∀ b ∈ bs, W0.heap.size ≤ b
  nodup : bs.Nodup
  fnb : ∀ j (h : j < bs.length), wr.heap[bs[j]]? = some (.cells #[.int .i64 (nth ks (3 * j + 1)), hv j] 111 (0, 0))
  row : wr.ownsRow W0.heap.size 109 1 v k (bs.map fun b => .pointer (some ⟨b, 0, none⟩))
  lk : LinkIn W0.heap.size wr ks bs ge k gp
section
variable {W0 wr : World} {ks : List Int} {ge : Value} {k : Nat} {hv : Nat → Value} {bs : List Nat} {v gp : Value}
theorem FixIn.start (W0 : World) (ks : List Int) (ge : Value) (hv : Nat → Value) : FixIn W0 W0 ks ge 0 hv [] (.slice none 0 0) ge :=
  ⟨Below.refl _ _, rfl, by simp, by simp, by simp, ⟨by simp, .inl ⟨rfl, rfl⟩⟩, .zero⟩
theorem FixIn.behind (h : FixIn W0 wr ks ge k hv bs v gp) {V : World} (hV : Below wr.heap.size wr V) : FixIn W0 V ks ge k hv bs v gp :=
  ⟨h.below.trans (hV.mono h.below.size), h.len, h.lo, h.nodup, fun j hj => (hV.block _ (Array.getElem?_eq_some_iff.1 (h.fnb j hj)).1).trans (h.fnb j hj),
    h.row.kept ⟨hV.os, hV.tape, hV.output, hV.size, fun i hi _ => hV.block i hi⟩ (row := none) (by cases v.ownBlock <;> simp),
    h.lk.persist (fun b cs fr hh => (hV.block b (Array.getElem?_eq_some_iff.1 hh).1).trans hh) (List.prefix_refl _)⟩
/-- one more: its block, the literal of 'append', the longer slice, the link -/
theorem FixIn.more (h : FixIn W0 wr ks ge k hv bs v gp) (hhv : hv k = .slice none 0 0) {o : Obj} {w1 : World} {v' : Value}
    (hown : w1.ownsRow W0.heap.size 109 1 v' (k + 1) ((bs.map fun b => Value.pointer (some ⟨b, 0, none⟩)) ++ [.pointer (some ⟨wr.heap.size, 0, none⟩)]))
    (hgrow : ((wr.alloc (.cells #[.int .i64 (nth ks (3 * k + 1)), .slice none 0 0] 111)).alloc o).grownBy w1 v.ownBlock) :
    FixIn W0 (w1.alloc (.cells #[.int .i64 (nth ks (3 * k)), .iface 109 (.pointer (some ⟨wr.heap.size, 0, none⟩)), gp] 99)) ks ge (k + 1) hv (bs ++ [wr.heap.size]) v' (.pointer (some ⟨w1.heap.size, 0, none⟩)) := by
  have hs := h.below.size
  have hb1 : Below W0.heap.size W0 ((wr.alloc (.cells #[.int .i64 (nth ks (3 * k + 1)), .slice none 0 0] 111)).alloc o) :=
    (h.below.alloc hs _).alloc (by rw [World.size_alloc]; exact Nat.le_trans hs (Nat.le_succ _)) _
  have hb2 : Below W0.heap.size W0 w1 := hb1.grown hgrow hb1.size (fun j hj => (h.row.lt j hj).1)
  have p1 : Persist wr ((wr.alloc (.cells #[.int .i64 (nth ks (3 * k + 1)), .slice none 0 0] 111)).alloc o) :=
    Persist.trans (Persist.alloc wr _) (Persist.alloc _ _)
  have hr1 := (h.row.alloc (.cells #[.int .i64 (nth ks (3 * k + 1)), .slice none 0 0] 111)).alloc o
  have p2 : Persist ((wr.alloc (.cells #[.int .i64 (nth ks (3 * k + 1)), .slice none 0 0] 111)).alloc o) w1 := Persist.grown hr1 hgrow
  have p3 := Persist.alloc w1 (.cells #[.int .i64 (nth ks (3 * k)), .iface 109 (.pointer (some ⟨wr.heap.size, 0, none⟩)), gp] 99)
  have hp := (p1.trans p2).trans p3
  have hfn : (w1.alloc (.cells #[.int .i64 (nth ks (3 * k)), .iface 109 (.pointer (some ⟨wr.heap.size, 0, none⟩)), gp] 99)).heap[wr.heap.size]? = some (.cells #[.int .i64 (nth ks (3 * k + 1)), .slice none 0 0] 111 (0, 0)) :=
    (p2.trans p3) _ _ _ _ (.inl rfl) ((Persist.alloc _ o) _ _ _ _ (.inl rfl) (World.alloc_heap_new wr _))
  refine ⟨hb2.alloc hb2.size _, by simp [h.len], ?_, ?_, ?_, ?_, ?_⟩
  · intro b hb
    rcases List.mem_append.1 hb with hb | hb
    · exact h.lo b hb
    · simp at hb; omega
  · rw [List.nodup_append]
    refine ⟨h.nodup, by simp, fun x hx y hy => ?_⟩
    obtain ⟨i, hi, rfl⟩ := List.getElem_of_mem hx
    have := (Array.getElem?_eq_some_iff.1 (h.fnb i hi)).1
    simp at hy; omega
  · intro j hj
    by_cases hjk : j < bs.length
    · rw [List.getElem_append_left hjk]
      exact hp _ _ _ _ (.inl rfl) (h.fnb j hjk)
    · have : j = k := by simp at hj; have := h.len; omega
      subst this
      have h' : (bs ++ [wr.heap.size])[j] = wr.heap.size := by rw [List.getElem_append_right (by have := h.len; omega)]; simp
      rw [h', hfn, hhv]
  · have := hown.alloc (.cells #[.int .i64 (nth ks (3 * k)), .iface 109 (.pointer (some ⟨wr.heap.size, 0, none⟩)), gp] 99)
    simpa using this
  · refine .succ (h.lk.persist (fun b cs fr hh => hp b cs _ fr (.inr rfl) hh) (List.prefix_append _ _)) hb2.size (f := wr.heap.size) ?_ (World.alloc_heap_new w1 _)
    rw [← h.len, List.getElem?_append_right (Nat.le_refl _)]; simp
/-- a closure gets what it holds -/
theorem FixIn.hold (h : FixIn W0 wr ks ge k hv bs v gp) {j : Nat} (hj : j < bs.length) (u : Value) :
    FixIn W0 (wr.setCell ⟨bs[j], 1, none⟩ u) ks ge k (fun i => if i = j then u else hv i) bs v gp := by
  have hlo := h.lo _ (List.getElem_mem hj)
  have hfj := h.fnb j hj
  refine ⟨h.below.setCell (p := ⟨bs[j], 1, none⟩) hlo _, h.len, h.lo, h.nodup, ?_, ?_, ?_⟩
  · intro i hi
    by_cases hij : i = j
    · subst hij
      rw [heap_set_self hfj]
      simp
    · have hne : bs[i] ≠ bs[j] := fun e => by
        have hp := List.pairwise_iff_getElem.1 h.nodup
        rcases Nat.lt_or_gt_of_ne hij with hlt | hgt
        · exact hp i j hi hj hlt e
        · exact hp j i hj hi hgt e.symm
      rw [heap_set_ne hne, h.fnb i hi]
      simp [hij]
  · refine h.row.kept (row := some bs[j]) ⟨rfl, rfl, rfl, by simp [World.setCell], fun i hi hne => heap_set_ne (fun e => hne (by rw [e])) _ _⟩ ?_
    rcases h.row.2 with ⟨rfl, _⟩ | ⟨g, cap, cur, rfl, _, hgg, _⟩
    · exact .inl rfl
    · refine .inr ?_
      simp only [Value.ownBlock, ne_eq, Option.some.injEq]
      rintro rfl
      have := hfj.symm.trans hgg
      simp only [Option.some.injEq, Obj.cells.injEq] at this
      exact absurd this.2.1 (by decide)
  · refine h.lk.persist (fun b cs fr hh => ?_) (List.prefix_refl _)
    refine (heap_set_ne ?_ _ _).trans hh
    rintro rfl
    have := hfj.symm.trans hh
    simp only [Option.some.injEq, Obj.cells.injEq] at this
    exact absurd this.2.1 (by decide)
end

section
variable {rb B : Nat} {p : FlatP} {inp : List Int} {fuel n : Nat} {s : FSt} {m : Mem} {W W0 W' : World}
/-- what is known behind it -/
theorem LinkIn.env {ks : List Int} {bs : List Nat} {ge : Value} {k : Nat} {gp : Value} (h : LinkIn W0.heap.size W' ks bs ge k gp) (hm : ∀ k, W0.heap.size ≤ k → ¬ m.mut rb k) (hk : 3 * k ≤ ks.length) {m' : Mem} (hm' : ∀ k, m'.mut rb k ↔ m.mut rb k) (hfa : ∀ j b, bs[j]? = some b → m'.fa[s.made.length + j]? = some b)
    {e : PEnv} (he : EnvIn rb m' W' e ge) : EnvIn rb m' W' (groupEnv (ks.take (3 * k)) s.made.length e) gp := by
  induction h with
  | zero => simpa [groupEnv] using he
  | @succ k gp b f h hlo hf hb ih =>
    rw [groupEnv_take ks _ _ (by omega)]
    exact .cons ⟨hb, fun hx => hm b hlo ((hm' b).1 hx)⟩ (.fn (hfa _ _ hf)) (ih (by omega))
theorem Good.groupEnv_ (hg : Good rb B p inp fuel s m W) (hW0 : Below W.heap.size W W0) {ks : List Int} {q : Nat} (hks : ks.length = 3 * q) {e : PEnv} {ge : Value} (he : EnvIn rb m W e ge) {hv : Nat → Value} {bs : List Nat} {v gp : Value} (h : FixIn W0 W' ks ge q hv bs v gp) :
    Evo rb m { m with fa := m.fa ++ bs } W W' ∧ EnvIn rb { m with fa := m.fa ++ bs } W' (groupEnv ks s.made.length e) gp := by
  have hsz := hW0.size
  have hbW : Below W.heap.size W W' := hW0.trans (h.below.mono hsz)
  have hk : Evo rb m { m with fa := m.fa ++ bs } W W' := (Evo.below hbW).more (List.prefix_append _ _) (List.prefix_refl _) (fun k hk => .inl hk)
  refine ⟨hk, ?_⟩
  have := h.lk.env (s := s) (m := m) (m' := { m with fa := m.fa ++ bs }) (rb := rb) (fun k hk hm => by have := hg.mutLt hm; omega) (by omega) (fun k => Iff.rfl) (fun j f hf => ?_) (he.evo hk)
  · rwa [List.take_of_length_le (by omega)] at this
  · show (m.fa ++ bs)[s.made.length + j]? = _
    rw [← hg.falen, List.getElem?_append_right (by omega)]
    simpa using hf
/-- what a closure of a group holds: a part of the row -/
def HeldAt (g off h : Nat) (v : Value) : Prop := ∃ A c, v = .slice A h c ∧ h ≤ c ∧ (0 < h → A = some ⟨g, off, none⟩)
theorem Good.grouped (hg : Good rb B p inp fuel s m W) (hW0 : Below W.heap.size W W0) {ks : List Int} {na q : Nat} (hks : GroupOk p.funs.length ks na q) {e : PEnv} {ge : Value} (he : EnvIn rb m W e ge) {hv : Nat → Value} {bs : List Nat} {v gp : Value} (h : FixIn W0 W' ks ge q hv bs v gp)
    {l : List PV} {g : Nat} (hl : l.length = na) (hgl : 0 < l.length → g < W'.heap.size ∧ ¬ m.mut rb g) {F : Nat → Value} (hc : ∀ j, j < l.length → W'.cell? ⟨g, j, none⟩ = some (F j)) (hr : ∀ j (h : j < l.length), RepV rb { m with fa := m.fa ++ bs } W' l[j] (F j))
    (hheld : ∀ j, j < q → HeldAt g (offN ks j) (nth ks (3 * j + 2)).toNat (hv j)) :
    Good rb B p inp fuel { s with made := s.made ++ groupMade ks l } { m with fa := m.fa ++ bs } W' ∧ Evo rb m { m with fa := m.fa ++ bs } W W' ∧ EnvIn rb { m with fa := m.fa ++ bs } W' (groupEnv ks s.made.length e) gp := by
  obtain ⟨hk, henv⟩ := hg.groupEnv_ hW0 hks.len he h
  have hsz := hW0.size
  have hbW : Below W.heap.size W W' := hW0.trans (h.below.mono hsz)
  have hgW := hg.below hbW
  have hlen : (groupMade ks l).length = q := groupMade_length q ks l hks.len
  refine ⟨⟨hgW.Bs, hg.rbB, hg.left, hg.fuelB, hg.bnd, hgW.run, hgW.out, ?_, ?_, hg.calen, ?_, hg.nodup, hg.rbca, hg.rbo, hg.oca, hg.caB⟩, hk, henv⟩
  · show (m.fa ++ bs).length = (s.made ++ _).length
    simp [hg.falen, hlen, h.len]
  · intro i hi
    by_cases hi' : i < s.made.length
    · simp only [List.getElem_append_left hi']
      exact hg.fnsEvo hk i hi'
    · have hj : i - s.made.length < q := by simp [hlen] at hi; omega
      have hjb : i - s.made.length < bs.length := by rw [h.len]; exact hj
      have hget := groupMade_get q ks l hks.len (i - s.made.length) hj
      have hget' : (s.made ++ groupMade ks l)[i] = (nth ks (3 * (i - s.made.length) + 1), (l.drop (offN ks (i - s.made.length))).take (nth ks (3 * (i - s.made.length) + 2)).toNat) := by
        rw [List.getElem_append_right (by omega)]
        rw [List.getElem?_eq_getElem (by omega)] at hget
        exact Option.some.inj hget
      obtain ⟨A, c, hv1, hv2, hv3⟩ := hheld _ hj
      have hoff : offN ks (i - s.made.length) + (nth ks (3 * (i - s.made.length) + 2)).toNat ≤ l.length := by
        have := offN_mono ks (show i - s.made.length + 1 ≤ q by omega)
        rw [hks.sum] at this
        rw [hl]
        exact this
      obtain ⟨h0, h255⟩ := hks.h _ hj
      obtain ⟨f0, f1⟩ := hks.f _ hj
      have hfb := h.fnb _ hjb
      generalize offN ks (i - s.made.length) = off at *
      generalize hH : (nth ks (3 * (i - s.made.length) + 2)).toNat = hh at *
      have hll : ((l.drop off).take hh).length = hh := by simp; omega
      simp only [hget', hll]
      refine ⟨bs[i - s.made.length], A, c, ?_, ⟨?_, ?_⟩, hv2, by omega, fun h00 => ?_, f0, f1⟩
      · show (m.fa ++ bs)[i]? = _
        rw [List.getElem?_append_right (by rw [hg.falen]; omega), hg.falen, List.getElem?_eq_getElem hjb]
      · rw [hfb, hv1]
      · intro hm
        have := hg.mutLt (k := bs[i - s.made.length]) hm
        have := h.lo _ (List.getElem_mem hjb)
        omega
      · have hp : 0 < hh := by rw [hll] at h00; exact h00
        obtain ⟨g1, g2⟩ := hgl (by omega)
        refine ⟨g, off, fun j => F (off + j), hv3 hp, g1, g2, fun j hj => hc _ (by rw [hll] at hj; omega), fun j hj => ?_⟩
        have := hr (off + j) (by rw [hll] at hj; omega)
        simpa using this
  · intro i hi
    obtain ⟨b', gv, h1, h2, h3⟩ := hg.cells i hi
    exact ⟨b', gv, h1, (hbW.block b' (Array.getElem?_eq_some_iff.1 h2).1).trans h2, h3.evo hk⟩
end
end Go.Proofs.Ytnobggabjpcbfaa

/-
  The flat evaluator: closures that know one another.
-/
set_option linter.unusedVariables false
set_option linter.unusedSimpArgs false
namespace Go.Proofs.Ytnobggabjpcbfaa
open Go.RowKit

theorem infoClos : (Try.prog.info? 109).map (fun i => (i.zero, i.size, i.bytes)) = some (some (.pointer none), 1, 8) := by kernel_rfl
theorem undClos : Try.prog.underlying 108 = some (.slice 109) := by kernel_rfl
section
variable {rb B : Nat} {p : FlatP} {inp : List Int} {fuel n : Nat} {s : FSt} {m : Mem} {W : World}
theorem RepV.setClos {b : Nat} {f : Int} {h : Value} (hb : W.heap[b]? = some (.cells #[.int .i64 f, h] 111 (0, 0))) (u : Value) {v : PV} {g : Value} (hr : RepV rb m W v g) : RepV rb m (W.setCell ⟨b, 1, none⟩ u) v g := by
  induction hr with
  | int n => exact .int n
  | @blk tag kids bb g cap F hbb hg hgm hl hp h8 hc hk ih =>
    have h1 : bb ≠ b := by
      rintro rfl
      have := hbb.1.symm.trans hb
      simp only [Option.some.injEq, Obj.cells.injEq] at this
      exact absurd this.2.1 (by decide)
    have h2 : g ≠ b := by
      rintro rfl
      obtain ⟨U, y, hF⟩ := (hk 0 hp).shape
      have h0 := hc 0 hp
      rw [hF] at h0
      simp [World.cell?, hb] at h0
    exact .blk ⟨(heap_set_ne h1 _ _).trans hbb.1, hbb.2⟩ (by simpa [World.setCell] using hg) hgm hl hp h8 (fun j hj => (cell_of_heap (heap_set_ne h2 _ _) j).trans (hc j hj)) ih
  | fn h => exact .fn h
  | ref h => exact .ref h
theorem RowZ.setClos {b : Nat} {f : Int} {h : Value} (hb : W.heap[b]? = some (.cells #[.int .i64 f, h] 111 (0, 0))) (u : Value) {l : List PV} {A : Option Addr} (hr : RowZ rb m W l A) : RowZ rb m (W.setCell ⟨b, 1, none⟩ u) l A := fun h0 => by
  obtain ⟨g, F, h1, h2, h3, h4, h5⟩ := hr h0
  have hne : g ≠ b := by
    rintro rfl
    obtain ⟨U, y, hF⟩ := (h5 0 h0).shape
    have h6 := h4 0 h0
    rw [hF] at h6
    simp [World.cell?, hb] at h6
  exact ⟨g, F, h1, by simpa [World.setCell] using h2, h3, fun j hj => (cell_of_heap (heap_set_ne hne _ _) j).trans (h4 j hj), fun j hj => (h5 j hj).setClos hb u⟩

def GroupPost (rb B : Nat) (p : FlatP) (inp : List Int) (fuel : Nat) (s : FSt) (m : Mem) (W : World) (ks : List Int) (ats : List Atm) (e : PEnv) (en : Ending) (W' : World) : Prop :=
  (∃ l m' pp, atomsP (groupEnv ks s.made.length e) ats = some l ∧ en = .returned (.pointer pp) ∧ Evo rb m m' W W' ∧ Good rb B p inp fuel { s with made := s.made ++ groupMade ks l } m' W' ∧ EnvIn rb m' W' (groupEnv ks s.made.length e) (.pointer pp)) ∨
    (atomsP (groupEnv ks s.made.length e) ats = none ∧ en = .panicked (stopV 4) ∧ Below W.heap.size W W')
/-- what stands while closures get what they hold -/
structure HoldIn (rb : Nat) (m : Mem) (W0 wr : World) (ks : List Int) (ge : Value) (q : Nat) (bs : List Nat) (lv gp : Value) (l : List PV) (A0 : Option Addr) (g : Nat) (j : Nat) (Aj : Option Addr) (L c : Nat) : Prop where
  fix : ∃ hv, FixIn W0 wr ks ge q hv bs lv gp ∧ ∀ i, i < j → HeldAt g (offN ks i) (nth ks (3 * i + 2)).toNat (hv i)
  row : RowZ rb m wr l A0
  eL : L + offN ks j = l.length
  ec : L ≤ c
  eA : 0 < L → Aj = some ⟨g, offN ks j, none⟩
theorem HoldIn.next {W0 wr : World} {ks : List Int} {ge : Value} {q : Nat} {bs : List Nat} {lv gp : Value} {l : List PV} {A0 : Option Addr} {g j : Nat} {Aj : Option Addr} {L c : Nat} (h : HoldIn rb m W0 wr ks ge q bs lv gp l A0 g j Aj L c) (hj : j < bs.length) {h2 : Nat} (hh : (nth ks (3 * j + 2)).toNat = h2) (hl : h2 ≤ L) {X Y : Option Addr} {c2 : Nat} (hX : 0 < h2 → X = some ⟨g, offN ks j, none⟩) (hY : 0 < L - h2 → Y = some ⟨g, offN ks j + h2, none⟩) (hc : L - h2 ≤ c2) :
    HoldIn rb m W0 (wr.setCell ⟨bs[j], 1, none⟩ (.slice X h2 h2)) ks ge q bs lv gp l A0 g (j + 1) Y (L - h2) c2 := by
  obtain ⟨hv, h1, h3⟩ := h.fix
  have hfb := h1.fnb j hj
  refine ⟨⟨_, h1.hold hj (.slice X h2 h2), fun i hi => ?_⟩, h.row.setClos hfb _, ?_, hc, ?_⟩
  · by_cases hij : i = j
    · subst hij
      rw [if_pos rfl, hh]
      exact ⟨X, h2, rfl, Nat.le_refl _, hX⟩
    · rw [if_neg hij]
      exact h3 i (by omega)
  · have := h.eL
    unfold offN
    rw [hh]; omega
  · unfold offN
    rw [hh]; exact hY
theorem HoldIn.drew {W0 wr : World} {ks : List Int} {ge : Value} {q : Nat} {bs : List Nat} {lv gp : Value} {l : List PV} {A0 : Option Addr} {g j : Nat} {Aj : Option Addr} {L c : Nat} (h : HoldIn rb m W0 wr ks ge q bs lv gp l A0 g j Aj L c) : HoldIn rb m W0 wr.drew ks ge q bs lv gp l A0 g j Aj L c := by
  obtain ⟨hv, h1, h3⟩ := h.fix
  exact ⟨⟨hv, h1.behind (Below.refl _ _).drew, h3⟩, h.row.evo (Evo.refl _ _ _).drew, h.eL, h.ec, h.eA⟩
/-- the way out -/
theorem HoldIn.end_ (hg : Good rb B p inp fuel s m W) {W0 wr : World} (hW0 : Below W.heap.size W W0) {ks : List Int} {ats : List Atm} {ge : Value} {q : Nat} (hks : GroupOk p.funs.length ks ats.length q) {e : PEnv} (he : EnvIn rb m W e ge) {bs : List Nat} {lv : Value} {gp : Option Addr} {l : List PV} {A0 : Option Addr} {g : Nat} (hgA : 0 < l.length → A0 = some ⟨g, 0, none⟩) {Aj : Option Addr} {L c : Nat}
    (h : HoldIn rb { m with fa := m.fa ++ bs } W0 wr ks ge q bs lv (.pointer gp) l A0 g q Aj L c) (hl : l.length = ats.length) (ho : atomsP (groupEnv ks s.made.length e) ats = some l) : GroupPost rb B p inp fuel s m W ks ats e (.returned (.pointer gp)) wr := by
  obtain ⟨hv, h1, h3⟩ := h.fix
  have key : ∃ F : Nat → Value, (0 < l.length → g < wr.heap.size ∧ ¬ m.mut rb g) ∧ (∀ j, j < l.length → wr.cell? ⟨g, j, none⟩ = some (F j)) ∧ (∀ j (h : j < l.length), RepV rb { m with fa := m.fa ++ bs } wr l[j] (F j)) := by
    by_cases h0 : 0 < l.length
    · obtain ⟨g', F, k1, k2, k3, k4, k5⟩ := h.row h0
      rw [hgA h0] at k1
      cases k1
      exact ⟨F, fun _ => ⟨k2, k3⟩, k4, k5⟩
    · exact ⟨fun _ => .nilIface, fun h => absurd h h0, fun j hj => by omega, fun j hj => by omega⟩
  obtain ⟨F, k1, k2, k3⟩ := key
  obtain ⟨g1, g2, g3⟩ := hg.grouped hW0 hks he h1 hl k1 k2 k3 h3
  exact .inl ⟨l, _, gp, ho, rfl, g2, g1, g3⟩

set_option maxRecDepth 100000 in
set_option maxHeartbeats 4000000 in
theorem group_any (hg : Good rb B p inp fuel s m W) {ks : List Int} {ats : List Atm} {q : Nat} (hks : GroupOk p.funs.length ks ats.length q) {Aa Ak Al : Option Addr} {ca ck lb cb : Nat} (ha : AtomsIn W.heap.size W Aa ats) (hk : IntsIn W.heap.size W Ak ks) (hkc : ks.length ≤ ck) {e : PEnv} {ge : Value} (he : EnvIn rb m W e ge) (kk nn : Int) :
    Calls Try.prog 52 #[.agg #[.int .i64 kk, .int .i64 nn, .slice Aa ats.length ca, .slice Ak ks.length ck, .slice Al lb cb], ge] W (GroupPost rb B p inp fuel s m W ks ats e) := by
  obtain ⟨pk, rfl⟩ := he.shape
  have hlen := hks.len
  have hq1 := hks.q1
  obtain ⟨bk, ok, rfl, hbk, hkc2⟩ := hk.at_ (by omega)
  have hlen64 : q ≤ 10000000000000 := by have := hk.1; omega
  obtain ⟨W0, hW0⟩ : ∃ W0, W.alloc (.cells #[.int .i64 kk, .int .i64 nn, .slice Aa ats.length ca, .slice (some ⟨bk, ok, none⟩) ks.length ck, .slice Al lb cb] 52) = W0 := ⟨_, rfl⟩
  have hb0 : Below W.heap.size W W0 := by rw [← hW0]; exact (Below.refl _ _).alloc (Nat.le_refl _) _
  have hsz0 : W0.heap.size = W.heap.size + 1 := by rw [← hW0]; simp
  have hc2 : W0.cell? ⟨W.heap.size, 2, none⟩ = some (.slice Aa ats.length ca) := by rw [← hW0, World.cell?_alloc_at _ _ _ _ rfl]; rfl
  have hc3 : W0.cell? ⟨W.heap.size, 3, none⟩ = some (.slice (some ⟨bk, ok, none⟩) ks.length ck) := by rw [← hW0, World.cell?_alloc_at _ _ _ _ rfl]; rfl
  have HR := Lib.hid (fun (V : World) (hV : Below W0.heap.size W0 V) =>
    (show V.cell? ⟨W.heap.size, 2, none⟩ = some (.slice Aa ats.length ca) ∧ V.cell? ⟨W.heap.size, 3, none⟩ = some (.slice (some ⟨bk, ok, none⟩) (3 * q) ck) ∧ ∀ k, k < 3 * q → V.cell? ⟨bk, ok + k, none⟩ = some (.int .i64 (nth ks k)) from
      have hbb : Below W.heap.size W V := hb0.trans (hV.mono (by omega))
      ⟨(hV.cell (p := ⟨_, _, none⟩) (by show W.heap.size < _; omega)).trans hc2, by rw [← hlen]; exact (hV.cell (p := ⟨_, _, none⟩) (by show W.heap.size < _; omega)).trans hc3, fun k hk => (hbb.cell (p := ⟨_, _, none⟩) hbk).trans (hkc2 k (by omega))⟩))
  -- what atoms are, closures being known
  have HA := Lib.hid (fun (V : World) (bs : List Nat) (lv gp : Value) (h : FixIn W0 V ks (.pointer pk) q (fun _ => .slice none 0 0) bs lv gp) =>
    (show Calls Try.prog 64 #[gp, .slice Aa ats.length ca] V (AtomsPost rb { m with fa := m.fa ++ bs } V (atomsP (groupEnv ks s.made.length e) ats)) from by
      obtain ⟨k1, k2⟩ := hg.groupEnv_ hb0 hlen he h
      have hsz := Nat.le_trans hb0.size h.below.size
      have hWV : Below W.heap.size W V := hb0.trans (h.below.mono hb0.size)
      exact atoms_any (m := { m with fa := m.fa ++ bs }) (fun k hk => Nat.lt_of_lt_of_le (hg.mutLt hk) hsz) k2 ((ha.below hWV).mono hsz)))
  have HEND := Lib.hid (fun (wr : World) (bs : List Nat) (lv : Value) (gp : Option Addr) (l : List PV) (A0 : Option Addr) (g : Nat) (hgA : 0 < l.length → A0 = some ⟨g, 0, none⟩) (Aj : Option Addr) (L c : Nat) (h : HoldIn rb { m with fa := m.fa ++ bs } W0 wr ks (.pointer pk) q bs lv (.pointer gp) l A0 g q Aj L c) (ho : atomsP (groupEnv ks s.made.length e) ats = some l) =>
    (show GroupPost rb B p inp fuel s m W ks ats e (.returned (.pointer gp)) wr from HoldIn.end_ hg hb0 hks he hgA h (atomsP_len _ _ ho) ho))
  have HSUM := Lib.hid (fun (l : List PV) (ho : atomsP (groupEnv ks s.made.length e) ats = some l) => (show offN ks q = l.length from by rw [hks.sum, atomsP_len _ _ ho]))
  have HST := Lib.hid (fun (V : World) (hV : Below W.heap.size W V) (ho : atomsP (groupEnv ks s.made.length e) ats = none) => (show GroupPost rb B p inp fuel s m W ks ats e (.panicked (stopV 4)) V from .inr ⟨ho, rfl, hV⟩))
  have HH := Lib.hid hks.h
  have HB0 := Lib.hid hb0
  have HSZ := Lib.hid (show W.heap.size < W0.heap.size by omega)
  obtain ⟨i0, hinf, hz0, hz1, hz2⟩ := info_parts infoClos
  obtain ⟨AO, hAO⟩ : ∃ o, atomsP (groupEnv ks s.made.length e) ats = o := ⟨_, rfl⟩
  rw [hAO] at HA
  have HAO := Lib.hid hAO
  rw [hlen] at hW0 ⊢
  clear hc2 hc3 hkc2 hks hg he hb0 hsz0 ha hk hAO
  rw [hlen] at hkc
  clear hlen
  go_enter Try.func52, Try.ntmps52
  go_wp2_with fail
  go_loopw [6, 5, 1] (fun i l kn wr => ∃ (k : Nat) (bs : List Nat), k ≤ q ∧ i = .int .i64 (3 * (k : Int)) ∧ Hid (FixIn W0 wr ks (.pointer pk) k (fun _ => .slice none 0 0) bs l kn)) (fun i _ _ _ => 3 * q + 3 - (intOf i).toNat)
  case atStart => exact ⟨0, [], by omega, rfl, Lib.hid (FixIn.start _ _ _ _)⟩
  case round =>
    obtain ⟨k, bs, hk, rfl, HF⟩ := hrel
    by_cases hlt : k < q
    · obtain ⟨r2, r3, r4⟩ := HR.out wr HF.out.below
      have r5 := r4 (3 * k) (by omega)
      have r6 := r4 (3 * k + 1) (by omega)
      obtain ⟨kp, rfl⟩ := HF.out.lk.shape ⟨_, rfl⟩
      have hlt' : 3 * (k : Int) + 2 < 3 * (q : Int) := by omega
      have hw1 : IntKind.i64.wrap (3 * (k : Int) + 1) = 3 * (k : Int) + 1 := by rw [IntKind.wrap_i64]; omega
      have hw2 : IntKind.i64.wrap (3 * (k : Int) + 2) = 3 * (k : Int) + 2 := by rw [IntKind.wrap_i64]; omega
      have hw3 : IntKind.i64.wrap (3 * (k : Int) + 3) = 3 * (k : Int) + 3 := by rw [IntKind.wrap_i64]; omega
      have hge : (0 : Int) ≤ 3 * (k : Int) + 1 := by omega
      have hge2 : (0 : Int) ≤ 3 * (k : Int) := by omega
      have hlt3 : 3 * (k : Int) < 3 * (q : Int) := by omega
      have hlt4 : 3 * (k : Int) + 1 < 3 * (q : Int) := by omega
      have hn2 : (3 * (k : Int)).toNat = 3 * k := by omega
      have hn1 : (3 * (k : Int) + 1).toNat = 3 * k + 1 := by omega
      have hml : k + 1 ≤ maxLen := by unfold maxLen; omega
      have HROW := Lib.hid (show ((wr.alloc (.cells #[.int .i64 (nth ks (3 * k + 1)), .slice none 0 0] 111)).alloc (.cells #[.pointer (some ⟨wr.heap.size, 0, none⟩)] 109)).ownsRow W0.heap.size 109 1 u5 k (bs.map fun b => .pointer (some ⟨b, 0, none⟩)) from (HF.out.row.alloc _).alloc _)
      have HNEW := Lib.hid (show ∀ j u, [Value.pointer (some ⟨wr.heap.size, 0, none⟩)][j]? = some u → ((wr.alloc (.cells #[.int .i64 (nth ks (3 * k + 1)), .slice none 0 0] 111)).alloc (.cells #[.pointer (some ⟨wr.heap.size, 0, none⟩)] 109)).cell? ((⟨wr.heap.size + 1, 0, none⟩ : Addr).add j) = some u from by
        have := cell_one_new (wr.alloc (.cells #[.int .i64 (nth ks (3 * k + 1)), .slice none 0 0] 111)) (.pointer (some ⟨wr.heap.size, 0, none⟩)) 109
        rw [World.size_alloc] at this
        exact this)
      have hwsz := HF.out.below.size
      have hszz : W0.heap.size ≤ ((wr.alloc (.cells #[.int .i64 (nth ks (3 * k + 1)), .slice none 0 0] 111)).alloc (.cells #[.pointer (some ⟨wr.heap.size, 0, none⟩)] 109)).heap.size := by rw [World.size_alloc, World.size_alloc]; omega
      have HZ := Lib.hid (fun (w1 : World) (hgrow : ((wr.alloc (.cells #[.int .i64 (nth ks (3 * k + 1)), .slice none 0 0] 111)).alloc (.cells #[.pointer (some ⟨wr.heap.size, 0, none⟩)] 109)).grownBy w1 u5.ownBlock) =>
        have hb1 : Below W0.heap.size W0 w1 := (HF.out.below.trans ((below_two wr _ _).mono hwsz)).grown hgrow hszz (fun j hj => (HF.out.row.lt j hj).1)
        And.intro hb1 (HR.out w1 hb1))
      go_wp2_with (at_builtin; refine wpList_append_own _ rfl _ _ 108 rfl W0.heap.size 109 i0 (.pointer none) 1 8 undClos hinf hz0 hz1 hz2 rfl (by decide) _ _ _ rfl HROW.out ⟨wr.heap.size + 1, 0, none⟩ 1 1 [.pointer (some ⟨wr.heap.size, 0, none⟩)] rfl rfl HNEW.out (by simp [Value.oneCell']) hml (by omega) hszz ?_; intro v' w1 hown' hgrow _; obtain ⟨hb1, z2, z3, z4⟩ := HZ.out w1 hgrow; have z5 := z4 (3 * k) (by omega); clear z4)
      have hgrow' := hgrow
      change World.grownBy _ w1 u5.ownBlock at hgrow'
      have HM := Lib.hid (HF.out.more rfl hown' hgrow')
      clear hgrow hgrow' hown' r4
      go_roundw
      case rel => exact ⟨k + 1, bs ++ [wr.heap.size], by omega, by go_num, HM⟩
      case measure => simp [intOf]; omega
    · have hkq : k = q := by omega
      subst hkq
      obtain ⟨r2, r3, r4⟩ := HR.out wr HF.out.below
      clear r4
      have hlt' : ¬ 3 * (k : Int) + 2 < 3 * (k : Int) := by omega
      have hw2 : IntKind.i64.wrap (3 * (k : Int) + 2) = 3 * (k : Int) + 2 := by rw [IntKind.wrap_i64]; omega
      obtain ⟨kp, rfl⟩ := HF.out.lk.shape ⟨_, rfl⟩
      obtain ⟨gg, cap, rfl⟩ : ∃ g cap, u5 = .slice (some ⟨g, 0, none⟩) k cap := by
        rcases HF.out.row.2 with ⟨_, h0⟩ | ⟨g, cap, cur, h, _⟩
        · exact absurd h0 (by omega)
        · exact ⟨g, cap, h⟩
      have hcapk : k ≤ cap := by
        rcases HF.out.row.2 with ⟨h0, _⟩ | ⟨g, cap', cur, h, _, _, hn, _⟩
        · cases h0
        · cases h; exact hn
      have HK := Lib.hid hk
      clear hk
      have HCA := Lib.hid (HA.out wr bs _ _ HF.out)
      have HWR := Lib.hid (show Below W.heap.size W wr from HB0.out.trans (HF.out.below.mono HB0.out.size))
      go_wp2_with (go_at_call 64; refine HCA.out.mono ?_; rintro en w' (⟨l, A0, c0, hv, rfl, hlc, hrow, hw⟩ | ⟨hv, rfl, hw⟩); rotate_left; exact ⟨rfl, HST.out _ (HWR.out.trans (hw.mono HWR.out.size)) (HAO.out.trans hv)⟩)
      have HSU := Lib.hid (HSUM.out l (HAO.out.trans hv))
      obtain ⟨g, hgA⟩ : ∃ g, 0 < l.length → A0 = some ⟨g, 0, none⟩ := by
        by_cases h0 : 0 < l.length
        · obtain ⟨g, F, h1, _⟩ := hrow h0
          exact ⟨g, fun _ => h1⟩
        · exact ⟨0, fun h => absurd h h0⟩
      have HHO := Lib.hid (show HoldIn rb { m with fa := m.fa ++ bs } W0 w' ks (.pointer pk) k bs (.slice (some ⟨gg, 0, none⟩) k cap) (.pointer kp) l A0 g 0 A0 l.length c0 from
        ⟨⟨_, HF.out.behind hw, fun i hi => by omega⟩, hrow, by simp [offN], hlc, fun h => by rw [hgA h]; rfl⟩)
      have HFIN := Lib.hid (fun (wr : World) (Aj : Option Addr) (L c : Nat) (h : HoldIn rb { m with fa := m.fa ++ bs } W0 wr ks (.pointer pk) k bs (.slice (some ⟨gg, 0, none⟩) k cap) (.pointer kp) l A0 g k Aj L c) => HEND.out wr bs _ kp l A0 g hgA Aj L c h (HAO.out.trans hv))
      obtain ⟨m1, hm1⟩ : ∃ m1, m1 = { m with fa := m.fa ++ bs } := ⟨_, rfl⟩
      rw [← hm1] at HHO HFIN
      clear hrow hw hv hgA hlc HEND HST HSUM HCA HA hm1
      go_loopw [48, 8] (fun i av wr => ∃ (j : Nat) (Aj : Option Addr) (L c : Nat), j ≤ k ∧ i = .int .i64 (j : Int) ∧ av = .slice Aj L c ∧ Hid (HoldIn rb m1 W0 wr ks (.pointer pk) k bs (.slice (some ⟨gg, 0, none⟩) k cap) (.pointer kp) l A0 g j Aj L c)) (fun i _ _ => k + 1 - (intOf i).toNat)
      case atStart => exact ⟨0, A0, l.length, c0, by omega, rfl, rfl, HHO⟩
      case round =>
        obtain ⟨wr2, rfl⟩ : ∃ wo, wo = wr := ⟨_, rfl⟩
        obtain ⟨j, Aj, L, c, hj, rfl, rfl, HO⟩ := hrel
        by_cases hlt2 : j < k
        · obtain ⟨hv, hF, -⟩ := HO.out.fix
          have hjb : j < bs.length := by rw [hF.len]; exact hlt2
          obtain ⟨-, r3, r4⟩ := HR.out wr2 hF.below
          have r5 := r4 (3 * j + 2) (by omega)
          clear r4
          have hcell : wr2.cell? ⟨gg, j, none⟩ = some (.pointer (some ⟨bs[j], 0, none⟩)) := by
            have := World.ownsRow.cells hF.row (g := gg) rfl j (.pointer (some ⟨bs[j], 0, none⟩)) (by simp [List.getElem?_eq_getElem hjb])
            have ha : (⟨gg, 0, none⟩ : Addr).add j = ⟨gg, j, none⟩ := by unfold Addr.add; split <;> simp_all
            rwa [ha] at this
          have hfj := hF.fnb j hjb
          have hc1 : wr2.cell? ⟨bs[j], 1, none⟩ = some (hv j) := by simp [World.cell?, hfj]
          have hz1' : wr2.frozen? ⟨bs[j], 1, none⟩ = false := by simp [World.frozen?, hfj]
          obtain ⟨h2, hh2⟩ : ∃ h2 : Nat, nth ks (3 * j + 2) = (h2 : Int) := ⟨(nth ks (3 * j + 2)).toNat, by have := (HH.out j hlt2).1; omega⟩
          have h255 : h2 ≤ 255 := by have := (HH.out j hlt2).2; omega
          have hle : h2 ≤ L := by
            have h1 := HO.out.eL
            have h3 := offN_mono ks (show j + 1 ≤ k by omega)
            rw [HSU.out] at h3
            unfold offN at h3
            omega
          have hLc := HO.out.ec
          have HA1 := Lib.hid HO.out.eA
          have HN := Lib.hid (fun (X Y : Option Addr) (c2 : Nat) => HO.out.next hjb (h2 := h2) (by omega) hle (X := X) (Y := Y) (c2 := c2))
          rw [hh2] at r5
          generalize bs[j] = bj at *
          generalize hv j = hvj at *
          clear hF hfj
          have hj0 : (0 : Int) ≤ (j : Int) := by omega
          have hjk : (j : Int) < (k : Int) := by omega
          have hkc2 : (k : Int) ≤ (cap : Int) := by omega
          have w1 : IntKind.i64.wrap (3 * (j : Int)) = 3 * (j : Int) := by rw [IntKind.wrap_i64]; omega
          have w2 : IntKind.i64.wrap (3 * (j : Int) + 2) = 3 * (j : Int) + 2 := by rw [IntKind.wrap_i64]; omega
          have w3 : (0 : Int) ≤ 3 * (j : Int) + 2 := by omega
          have w4 : 3 * (j : Int) + 2 < 3 * (k : Int) := by omega
          have w5 : (3 * (j : Int) + 2).toNat = 3 * j + 2 := by omega
          have x0 : (0 : Int) ≤ (h2 : Int) := by omega
          have x1 : (h2 : Int) ≤ (c : Int) := by omega
          have x2 : (h2 : Int) ≤ (L : Int) := by omega
          clear HO
          go_wp2_with fail
          go_region
          all_goals
            have HN2 := Lib.hid ((HN.out Aj (if c = h2 then Aj else Option.map (fun x => x.add h2) Aj) (c - h2) (fun h => HA1.out (by omega)) (fun h => by
              rw [if_neg (by omega), HA1.out (by omega)]
              simp [Addr.add]) (by omega)).drew)
            generalize (if c = h2 then Aj else Option.map (fun x => x.add h2) Aj) = Y at *
            generalize (wr2.setCell ⟨bj, 1, none⟩ (.slice Aj h2 h2)).drew = V at *
            generalize L - h2 = L2 at *
            generalize c - h2 = c2 at *
            clear HN HFIN HHO HA1 hz1' hc1 hcell r5 r3
            go_wp2_with fail
            go_roundw
            case rel => exact ⟨j + 1, Y, L2, c2, by omega, by go_num, rfl, HN2⟩
            case measure => simp [intOf]; omega
        · have hjk : j = k := by omega
          subst hjk
          have HFI := Lib.hid (HFIN.out wr2 Aj L c HO.out)
          have hjj : ¬ (j : Int) < (j : Int) := by omega
          clear HO
          go_wp2_with fail
          go_ret
          exact HFI.out
end
end Go.Proofs.Ytnobggabjpcbfaa

/-
  The flat evaluator: right sides by kinds.
-/
set_option linter.unusedVariables false
set_option linter.unusedSimpArgs false
namespace Go.Proofs.Ytnobggabjpcbfaa
open Go.RowKit

section
variable {rb B : Nat} {p : FlatP} {inp : List Int} {fuel n : Nat} {s : FSt} {m : Mem} {W : World}
theorem RowZ.one {l : List PV} {A : Option Addr} (h : RowZ rb m W l A) (hl : l.length = 1) : ∃ a g T x, l = [a] ∧ A = some ⟨g, 0, none⟩ ∧ g < W.heap.size ∧ ¬ m.mut rb g ∧ W.cell? ⟨g, 0, none⟩ = some (.iface T x) ∧ RepV rb m W a (.iface T x) := by
  match l, hl with
  | [a], _ =>
    obtain ⟨g, F, h1, h2, h3, h4, h5⟩ := h (by simp)
    have hr := h5 0 (by simp)
    obtain ⟨T, x, hF⟩ := hr.shape
    rw [hF] at hr
    exact ⟨a, g, T, x, rfl, h1, h2, h3, by rw [h4 0 (by simp), hF], hr⟩
theorem RowZ.two {l : List PV} {A : Option Addr} (h : RowZ rb m W l A) (hl : l.length = 2) : ∃ a b g T x U y, l = [a, b] ∧ A = some ⟨g, 0, none⟩ ∧ g < W.heap.size ∧ ¬ m.mut rb g ∧ W.cell? ⟨g, 0, none⟩ = some (.iface T x) ∧ W.cell? ⟨g, 1, none⟩ = some (.iface U y) ∧ RepV rb m W a (.iface T x) ∧ RepV rb m W b (.iface U y) := by
  match l, hl with
  | [a, b], _ =>
    obtain ⟨g, F, h1, h2, h3, h4, h5⟩ := h (by simp)
    have hr := h5 0 (by simp)
    have hr1 := h5 1 (by simp)
    obtain ⟨T, x, hF⟩ := hr.shape
    obtain ⟨U, y, hF1⟩ := hr1.shape
    rw [hF] at hr
    rw [hF1] at hr1
    exact ⟨a, b, g, T, x, U, y, rfl, h1, h2, h3, by rw [h4 0 (by simp), hF], by rw [h4 1 (by simp), hF1], hr, hr1⟩
/-- what a right side comes to -/
def sideF (p : FlatP) (inp : List Int) (n : Nat) (k nn : Int) (ats : List Atm) (ks : List Int) (bl : List Anf) (e : PEnv) (s : FSt) : FOut :=
  match atomsP e ats with
  | some l => rhsF p.funs inp (evF p.funs inp n) k nn l ks bl e s
  | none => (.stuck, s)
theorem sideF_some {k nn : Int} {ats : List Atm} {ks : List Int} {bl : List Anf} {e : PEnv} {l : List PV} (h : atomsP e ats = some l) : sideF p inp n k nn ats ks bl e s = rhsF p.funs inp (evF p.funs inp n) k nn l ks bl e s := by unfold sideF; rw [h]
theorem sideF_none {k nn : Int} {ats : List Atm} {ks : List Int} {bl : List Anf} {e : PEnv} (h : atomsP e ats = none) : sideF p inp n k nn ats ks bl e s = (.stuck, s) := by unfold sideF; rw [h]

set_option maxRecDepth 100000 in
set_option maxHeartbeats 4000000 in
theorem side_atom (hg : Good rb B p inp fuel s m W) {ats : List Atm} {ks : List Int} {bl : List Anf} {Aa Ak Al : Option Addr} {ca ck cb : Nat} {e : PEnv} {ge : Value} (he : EnvIn rb m W e ge) (ha : AtomsIn W.heap.size W Aa ats) (nn : Int) (h1 : ats.length = 1):
    Calls Try.prog 53 #[.pointer (some ⟨rb, 0, none⟩), .agg #[.int .i64 1, .int .i64 nn, .slice Aa ats.length ca, .slice Ak ks.length ck, .slice Al bl.length cb], ge] W (EvPost rb B p inp fuel m W (sideF p inp n 1 nn ats ks bl e s)) := by
  obtain ⟨pk, rfl⟩ := he.shape
  obtain ⟨W0, hW0⟩ : ∃ W0, W.alloc (.cells #[.int .i64 1, .int .i64 nn, .slice Aa ats.length ca, .slice Ak ks.length ck, .slice Al bl.length cb] 52) = W0 := ⟨_, rfl⟩
  have hb0 : Below W.heap.size W W0 := by rw [← hW0]; exact (Below.refl _ _).alloc (Nat.le_refl _) _
  have hs0 : W.heap.size < W0.heap.size := by rw [← hW0]; simp
  have c0 : W0.cell? ⟨W.heap.size, 0, none⟩ = some (.int .i64 1) := by rw [← hW0, World.cell?_alloc_at _ _ _ _ rfl]; rfl
  have c1 : W0.cell? ⟨W.heap.size, 1, none⟩ = some (.int .i64 nn) := by rw [← hW0, World.cell?_alloc_at _ _ _ _ rfl]; rfl
  have c2 : W0.cell? ⟨W.heap.size, 2, none⟩ = some (.slice Aa ats.length ca) := by rw [← hW0, World.cell?_alloc_at _ _ _ _ rfl]; rfl
  have c3 : W0.cell? ⟨W.heap.size, 3, none⟩ = some (.slice Ak ks.length ck) := by rw [← hW0, World.cell?_alloc_at _ _ _ _ rfl]; rfl
  have c4 : W0.cell? ⟨W.heap.size, 4, none⟩ = some (.slice Al bl.length cb) := by rw [← hW0, World.cell?_alloc_at _ _ _ _ rfl]; rfl
  have HR := Lib.hid (fun (V : World) (hV : Below W0.heap.size W0 V) => (show V.cell? ⟨W.heap.size, 0, none⟩ = some (.int .i64 1) ∧ V.cell? ⟨W.heap.size, 1, none⟩ = some (.int .i64 nn) ∧ V.cell? ⟨W.heap.size, 3, none⟩ = some (.slice Ak ks.length ck) ∧ V.cell? ⟨W.heap.size, 4, none⟩ = some (.slice Al bl.length cb) from
    ⟨(hV.cell (p := ⟨W.heap.size, 0, none⟩) hs0).trans c0, (hV.cell (p := ⟨W.heap.size, 1, none⟩) hs0).trans c1, (hV.cell (p := ⟨W.heap.size, 3, none⟩) hs0).trans c3, (hV.cell (p := ⟨W.heap.size, 4, none⟩) hs0).trans c4⟩))
  have hE0 : Evo rb m m W W0 := Evo.below hb0
  have HA := Lib.hid (show Calls Try.prog 64 #[.pointer pk, .slice Aa ats.length ca] W0 (AtomsPost rb m W0 (atomsP e ats)) from
    atoms_any (fun k hk => Nat.lt_of_lt_of_le (hg.mutLt hk) (Nat.le_of_lt hs0)) (he.evo hE0) ((ha.below hb0).mono (Nat.le_of_lt hs0)))
  have HST := Lib.hid (fun (V : World) (hV : Below W0.heap.size W0 V) (ho : atomsP e ats = none) => (show EvPost rb B p inp fuel m W (sideF p inp n 1 nn ats ks bl e s) (.panicked (stopV 4)) V from by
    rw [sideF_none ho]
    have hb : Below W.heap.size W V := hb0.trans (hV.mono (Nat.le_of_lt hs0))
    exact .stuck (Evo.below hb) (hg.below hb) (thrown_one _ _)))
  have HW := Lib.hid (fun (V : World) (hV : Below W0.heap.size W0 V) => (show Below W.heap.size W V from hb0.trans (hV.mono (Nat.le_of_lt hs0))))
  have HL := Lib.hid (fun (l : List PV) (ho : atomsP e ats = some l) => atomsP_len ats l ho)
  have HE := Lib.hid (fun (V : World) (l : List PV) (A : Option Addr) (hV : Below W.heap.size W V) (ho : sideF p inp n 1 nn ats ks bl e s = rhsF p.funs inp (evF p.funs inp n) 1 nn l ks bl e s) (hr : RowZ rb m V l A) (hl : l.length = 1) => (show ∃ g T x, A = some ⟨g, 0, none⟩ ∧ V.cell? ⟨g, 0, none⟩ = some (.iface T x) ∧ EvPost rb B p inp fuel m W (sideF p inp n 1 nn ats ks bl e s) (.returned (.iface T x)) V from by
    obtain ⟨a, g, T, x, rfl, h2, h3, h4, h5, h6⟩ := hr.one hl
    refine ⟨g, T, x, h2, h5, ?_⟩
    rw [ho]
    exact .val (Evo.below hV) (hg.below hV) h6))
  have h1' := Lib.hid h1
  obtain ⟨out, hout⟩ : ∃ o, sideF p inp n 1 nn ats ks bl e s = o := ⟨_, rfl⟩
  rw [hout] at HE
  rw [hout] at HST ⊢
  have HO := Lib.hid hout
  clear hout hE0 hs0 hb0 c0 c1 c3 c4 ha hg he h1
  go_enter Try.func53, Try.ntmps53
  go_wp2_with fail
  refine HA.out.mono ?_
  rintro en w' (⟨l, A, cap, hv, rfl, hlc, hrow, hw⟩ | ⟨hv, rfl, hw⟩)
  rotate_left
  · exact ⟨rfl, HST.out _ hw hv⟩
  have hll := HL.out l hv
  have ho := HO.out.symm.trans (sideF_some hv)
  obtain ⟨d0, d1, d3, d4⟩ := HR.out w' hw
  have HWW := Lib.hid (HW.out w' hw)
  clear HA HST HR HL HW HO hv hw hW0 c2
  obtain ⟨g, T, x, rfl, q0, hq⟩ := HE.out w' l A HWW.out ho hrow (by rw [hll, h1'.out])
  have hl1 : l.length = 1 := by rw [hll, h1'.out]
  rw [hl1] at hlc ⊢
  have HQ := Lib.hid hq
  clear hrow hq ho hll hl1 HE HWW
  go_wp2_with fail
  go_ret
  exact HQ.out

set_option maxRecDepth 100000 in
set_option maxHeartbeats 4000000 in
theorem side_block (hg : Good rb B p inp fuel s m W) {ats : List Atm} {ks : List Int} {bl : List Anf} {Aa Ak Al : Option Addr} {ca ck cb : Nat} {e : PEnv} {ge : Value} (he : EnvIn rb m W e ge) (ha : AtomsIn W.heap.size W Aa ats) (nn : Int) (h1 : 1 ≤ ats.length ∧ ats.length ≤ 8):
    Calls Try.prog 53 #[.pointer (some ⟨rb, 0, none⟩), .agg #[.int .i64 3, .int .i64 nn, .slice Aa ats.length ca, .slice Ak ks.length ck, .slice Al bl.length cb], ge] W (EvPost rb B p inp fuel m W (sideF p inp n 3 nn ats ks bl e s)) := by
  obtain ⟨pk, rfl⟩ := he.shape
  obtain ⟨W0, hW0⟩ : ∃ W0, W.alloc (.cells #[.int .i64 3, .int .i64 nn, .slice Aa ats.length ca, .slice Ak ks.length ck, .slice Al bl.length cb] 52) = W0 := ⟨_, rfl⟩
  have hb0 : Below W.heap.size W W0 := by rw [← hW0]; exact (Below.refl _ _).alloc (Nat.le_refl _) _
  have hs0 : W.heap.size < W0.heap.size := by rw [← hW0]; simp
  have c0 : W0.cell? ⟨W.heap.size, 0, none⟩ = some (.int .i64 3) := by rw [← hW0, World.cell?_alloc_at _ _ _ _ rfl]; rfl
  have c1 : W0.cell? ⟨W.heap.size, 1, none⟩ = some (.int .i64 nn) := by rw [← hW0, World.cell?_alloc_at _ _ _ _ rfl]; rfl
  have c2 : W0.cell? ⟨W.heap.size, 2, none⟩ = some (.slice Aa ats.length ca) := by rw [← hW0, World.cell?_alloc_at _ _ _ _ rfl]; rfl
  have c3 : W0.cell? ⟨W.heap.size, 3, none⟩ = some (.slice Ak ks.length ck) := by rw [← hW0, World.cell?_alloc_at _ _ _ _ rfl]; rfl
  have c4 : W0.cell? ⟨W.heap.size, 4, none⟩ = some (.slice Al bl.length cb) := by rw [← hW0, World.cell?_alloc_at _ _ _ _ rfl]; rfl
  have HR := Lib.hid (fun (V : World) (hV : Below W0.heap.size W0 V) => (show V.cell? ⟨W.heap.size, 0, none⟩ = some (.int .i64 3) ∧ V.cell? ⟨W.heap.size, 1, none⟩ = some (.int .i64 nn) ∧ V.cell? ⟨W.heap.size, 3, none⟩ = some (.slice Ak ks.length ck) ∧ V.cell? ⟨W.heap.size, 4, none⟩ = some (.slice Al bl.length cb) from
    ⟨(hV.cell (p := ⟨W.heap.size, 0, none⟩) hs0).trans c0, (hV.cell (p := ⟨W.heap.size, 1, none⟩) hs0).trans c1, (hV.cell (p := ⟨W.heap.size, 3, none⟩) hs0).trans c3, (hV.cell (p := ⟨W.heap.size, 4, none⟩) hs0).trans c4⟩))
  have hE0 : Evo rb m m W W0 := Evo.below hb0
  have HA := Lib.hid (show Calls Try.prog 64 #[.pointer pk, .slice Aa ats.length ca] W0 (AtomsPost rb m W0 (atomsP e ats)) from
    atoms_any (fun k hk => Nat.lt_of_lt_of_le (hg.mutLt hk) (Nat.le_of_lt hs0)) (he.evo hE0) ((ha.below hb0).mono (Nat.le_of_lt hs0)))
  have HST := Lib.hid (fun (V : World) (hV : Below W0.heap.size W0 V) (ho : atomsP e ats = none) => (show EvPost rb B p inp fuel m W (sideF p inp n 3 nn ats ks bl e s) (.panicked (stopV 4)) V from by
    rw [sideF_none ho]
    have hb : Below W.heap.size W V := hb0.trans (hV.mono (Nat.le_of_lt hs0))
    exact .stuck (Evo.below hb) (hg.below hb) (thrown_one _ _)))
  have HW := Lib.hid (fun (V : World) (hV : Below W0.heap.size W0 V) => (show Below W.heap.size W V from hb0.trans (hV.mono (Nat.le_of_lt hs0))))
  have HL := Lib.hid (fun (l : List PV) (ho : atomsP e ats = some l) => atomsP_len ats l ho)
  have HE := Lib.hid (fun (V : World) (l : List PV) (A : Option Addr) (cap : Nat) (hV : Below W.heap.size W V) (ho : sideF p inp n 3 nn ats ks bl e s = rhsF p.funs inp (evF p.funs inp n) 3 nn l ks bl e s) (hr : RowZ rb m V l A) (hl : l.length = ats.length) (hc : l.length ≤ cap) => (show EvPost rb B p inp fuel m W (sideF p inp n 3 nn ats ks bl e s) (.returned (.iface 91 (.pointer (some ⟨V.heap.size, 0, none⟩)))) (V.alloc (.cells #[.int .i64 nn, .slice A l.length cap] 94)) from by
    obtain ⟨g, F, rfl, h2, h3, h4, h5⟩ := hr (by omega)
    have hgV := hg.below hV
    have ha : Evo rb m m V (V.alloc (.cells #[.int .i64 nn, .slice (some ⟨g, 0, none⟩) l.length cap] 94)) := Evo.alloc _ _ _ _
    rw [ho, show rhsF p.funs inp (evF p.funs inp n) 3 nn l ks bl e s = (.val (.blk nn l), s) by simp [rhsF]]
    exact .val ((Evo.below hV).trans ha) (hgV.below ((Below.refl _ _).alloc (Nat.le_refl _) _)) (.blk (at_new (fun k hk => hgV.mutLt hk) _ _) (Nat.lt_of_lt_of_le h2 ha.size) h3 hc (by omega) (by omega) (fun j hj => (cell_of_heap (ha.same g h2 h3) j).trans (h4 j hj)) (fun j hj => (h5 j hj).evo ha))))
  obtain ⟨out, hout⟩ : ∃ o, sideF p inp n 3 nn ats ks bl e s = o := ⟨_, rfl⟩
  rw [hout] at HE
  rw [hout] at HST ⊢
  have HO := Lib.hid hout
  clear hout hE0 hs0 hb0 c0 c1 c3 c4 ha hg he h1
  go_enter Try.func53, Try.ntmps53
  go_wp2_with fail
  refine HA.out.mono ?_
  rintro en w' (⟨l, A, cap, hv, rfl, hlc, hrow, hw⟩ | ⟨hv, rfl, hw⟩)
  rotate_left
  · exact ⟨rfl, HST.out _ hw hv⟩
  have hll := HL.out l hv
  have ho := HO.out.symm.trans (sideF_some hv)
  obtain ⟨d0, d1, d3, d4⟩ := HR.out w' hw
  have HWW := Lib.hid (HW.out w' hw)
  clear HA HST HR HL HW HO hv hw hW0 c2
  have HQ := Lib.hid (HE.out w' l A cap HWW.out ho hrow hll hlc)
  clear hrow ho hll HE HWW
  go_wp2_with fail
  go_ret
  exact HQ.out

set_option maxRecDepth 100000 in
set_option maxHeartbeats 4000000 in
theorem side_close (hg : Good rb B p inp fuel s m W) {ats : List Atm} {ks : List Int} {bl : List Anf} {Aa Ak Al : Option Addr} {ca ck cb : Nat} {e : PEnv} {ge : Value} (he : EnvIn rb m W e ge) (ha : AtomsIn W.heap.size W Aa ats) (nn : Int) (h1 : ats.length ≤ 255 ∧ 0 ≤ nn ∧ nn < p.funs.length):
    Calls Try.prog 53 #[.pointer (some ⟨rb, 0, none⟩), .agg #[.int .i64 9, .int .i64 nn, .slice Aa ats.length ca, .slice Ak ks.length ck, .slice Al bl.length cb], ge] W (EvPost rb B p inp fuel m W (sideF p inp n 9 nn ats ks bl e s)) := by
  obtain ⟨pk, rfl⟩ := he.shape
  obtain ⟨W0, hW0⟩ : ∃ W0, W.alloc (.cells #[.int .i64 9, .int .i64 nn, .slice Aa ats.length ca, .slice Ak ks.length ck, .slice Al bl.length cb] 52) = W0 := ⟨_, rfl⟩
  have hb0 : Below W.heap.size W W0 := by rw [← hW0]; exact (Below.refl _ _).alloc (Nat.le_refl _) _
  have hs0 : W.heap.size < W0.heap.size := by rw [← hW0]; simp
  have c0 : W0.cell? ⟨W.heap.size, 0, none⟩ = some (.int .i64 9) := by rw [← hW0, World.cell?_alloc_at _ _ _ _ rfl]; rfl
  have c1 : W0.cell? ⟨W.heap.size, 1, none⟩ = some (.int .i64 nn) := by rw [← hW0, World.cell?_alloc_at _ _ _ _ rfl]; rfl
  have c2 : W0.cell? ⟨W.heap.size, 2, none⟩ = some (.slice Aa ats.length ca) := by rw [← hW0, World.cell?_alloc_at _ _ _ _ rfl]; rfl
  have c3 : W0.cell? ⟨W.heap.size, 3, none⟩ = some (.slice Ak ks.length ck) := by rw [← hW0, World.cell?_alloc_at _ _ _ _ rfl]; rfl
  have c4 : W0.cell? ⟨W.heap.size, 4, none⟩ = some (.slice Al bl.length cb) := by rw [← hW0, World.cell?_alloc_at _ _ _ _ rfl]; rfl
  have HR := Lib.hid (fun (V : World) (hV : Below W0.heap.size W0 V) => (show V.cell? ⟨W.heap.size, 0, none⟩ = some (.int .i64 9) ∧ V.cell? ⟨W.heap.size, 1, none⟩ = some (.int .i64 nn) ∧ V.cell? ⟨W.heap.size, 3, none⟩ = some (.slice Ak ks.length ck) ∧ V.cell? ⟨W.heap.size, 4, none⟩ = some (.slice Al bl.length cb) from
    ⟨(hV.cell (p := ⟨W.heap.size, 0, none⟩) hs0).trans c0, (hV.cell (p := ⟨W.heap.size, 1, none⟩) hs0).trans c1, (hV.cell (p := ⟨W.heap.size, 3, none⟩) hs0).trans c3, (hV.cell (p := ⟨W.heap.size, 4, none⟩) hs0).trans c4⟩))
  have hE0 : Evo rb m m W W0 := Evo.below hb0
  have HA := Lib.hid (show Calls Try.prog 64 #[.pointer pk, .slice Aa ats.length ca] W0 (AtomsPost rb m W0 (atomsP e ats)) from
    atoms_any (fun k hk => Nat.lt_of_lt_of_le (hg.mutLt hk) (Nat.le_of_lt hs0)) (he.evo hE0) ((ha.below hb0).mono (Nat.le_of_lt hs0)))
  have HST := Lib.hid (fun (V : World) (hV : Below W0.heap.size W0 V) (ho : atomsP e ats = none) => (show EvPost rb B p inp fuel m W (sideF p inp n 9 nn ats ks bl e s) (.panicked (stopV 4)) V from by
    rw [sideF_none ho]
    have hb : Below W.heap.size W V := hb0.trans (hV.mono (Nat.le_of_lt hs0))
    exact .stuck (Evo.below hb) (hg.below hb) (thrown_one _ _)))
  have HW := Lib.hid (fun (V : World) (hV : Below W0.heap.size W0 V) => (show Below W.heap.size W V from hb0.trans (hV.mono (Nat.le_of_lt hs0))))
  have HL := Lib.hid (fun (l : List PV) (ho : atomsP e ats = some l) => atomsP_len ats l ho)
  have HE := Lib.hid (fun (V : World) (l : List PV) (A : Option Addr) (cap : Nat) (hV : Below W.heap.size W V) (ho : sideF p inp n 9 nn ats ks bl e s = rhsF p.funs inp (evF p.funs inp n) 9 nn l ks bl e s) (hr : RowZ rb m V l A) (hl : l.length = ats.length) (hc : l.length ≤ cap) => (show EvPost rb B p inp fuel m W (sideF p inp n 9 nn ats ks bl e s) (.returned (.iface 109 (.pointer (some ⟨V.heap.size, 0, none⟩)))) (V.alloc (.cells #[.int .i64 nn, .slice A l.length cap] 111)) from by
    have hgV := hg.below hV
    obtain ⟨q1, q2, q3⟩ := hgV.addClosure h1.2.1 h1.2.2 hc (by omega) hr.row
    rw [ho, show rhsF p.funs inp (evF p.funs inp n) 9 nn l ks bl e s = (.val (.fn s.made.length), { s with made := s.made ++ [(nn, l)] }) by simp [rhsF]]
    exact .val ((Evo.below hV).trans q2) q1 q3))
  obtain ⟨out, hout⟩ : ∃ o, sideF p inp n 9 nn ats ks bl e s = o := ⟨_, rfl⟩
  rw [hout] at HE
  rw [hout] at HST ⊢
  have HO := Lib.hid hout
  clear hout hE0 hs0 hb0 c0 c1 c3 c4 ha hg he h1
  go_enter Try.func53, Try.ntmps53
  go_wp2_with fail
  refine HA.out.mono ?_
  rintro en w' (⟨l, A, cap, hv, rfl, hlc, hrow, hw⟩ | ⟨hv, rfl, hw⟩)
  rotate_left
  · exact ⟨rfl, HST.out _ hw hv⟩
  have hll := HL.out l hv
  have ho := HO.out.symm.trans (sideF_some hv)
  obtain ⟨d0, d1, d3, d4⟩ := HR.out w' hw
  have HWW := Lib.hid (HW.out w' hw)
  clear HA HST HR HL HW HO hv hw hW0 c2
  have HQ := Lib.hid (HE.out w' l A cap HWW.out ho hrow hll hlc)
  clear hrow ho hll HE HWW
  go_wp2_with fail
  go_ret
  exact HQ.out

set_option maxRecDepth 100000 in
set_option maxHeartbeats 4000000 in
theorem side_field (hg : Good rb B p inp fuel s m W) {ats : List Atm} {ks : List Int} {bl : List Anf} {Aa Ak Al : Option Addr} {ca ck cb : Nat} {e : PEnv} {ge : Value} (he : EnvIn rb m W e ge) (ha : AtomsIn W.heap.size W Aa ats) (nn : Int) (h1 : ats.length = 1) (h2 : 0 ≤ nn ∧ nn ≤ 255):
    Calls Try.prog 53 #[.pointer (some ⟨rb, 0, none⟩), .agg #[.int .i64 4, .int .i64 nn, .slice Aa ats.length ca, .slice Ak ks.length ck, .slice Al bl.length cb], ge] W (EvPost rb B p inp fuel m W (sideF p inp n 4 nn ats ks bl e s)) := by
  obtain ⟨pk, rfl⟩ := he.shape
  obtain ⟨W0, hW0⟩ : ∃ W0, W.alloc (.cells #[.int .i64 4, .int .i64 nn, .slice Aa ats.length ca, .slice Ak ks.length ck, .slice Al bl.length cb] 52) = W0 := ⟨_, rfl⟩
  have hb0 : Below W.heap.size W W0 := by rw [← hW0]; exact (Below.refl _ _).alloc (Nat.le_refl _) _
  have hs0 : W.heap.size < W0.heap.size := by rw [← hW0]; simp
  have c0 : W0.cell? ⟨W.heap.size, 0, none⟩ = some (.int .i64 4) := by rw [← hW0, World.cell?_alloc_at _ _ _ _ rfl]; rfl
  have c1 : W0.cell? ⟨W.heap.size, 1, none⟩ = some (.int .i64 nn) := by rw [← hW0, World.cell?_alloc_at _ _ _ _ rfl]; rfl
  have c2 : W0.cell? ⟨W.heap.size, 2, none⟩ = some (.slice Aa ats.length ca) := by rw [← hW0, World.cell?_alloc_at _ _ _ _ rfl]; rfl
  have c3 : W0.cell? ⟨W.heap.size, 3, none⟩ = some (.slice Ak ks.length ck) := by rw [← hW0, World.cell?_alloc_at _ _ _ _ rfl]; rfl
  have c4 : W0.cell? ⟨W.heap.size, 4, none⟩ = some (.slice Al bl.length cb) := by rw [← hW0, World.cell?_alloc_at _ _ _ _ rfl]; rfl
  have HR := Lib.hid (fun (V : World) (hV : Below W0.heap.size W0 V) => (show V.cell? ⟨W.heap.size, 0, none⟩ = some (.int .i64 4) ∧ V.cell? ⟨W.heap.size, 1, none⟩ = some (.int .i64 nn) ∧ V.cell? ⟨W.heap.size, 3, none⟩ = some (.slice Ak ks.length ck) ∧ V.cell? ⟨W.heap.size, 4, none⟩ = some (.slice Al bl.length cb) from
    ⟨(hV.cell (p := ⟨W.heap.size, 0, none⟩) hs0).trans c0, (hV.cell (p := ⟨W.heap.size, 1, none⟩) hs0).trans c1, (hV.cell (p := ⟨W.heap.size, 3, none⟩) hs0).trans c3, (hV.cell (p := ⟨W.heap.size, 4, none⟩) hs0).trans c4⟩))
  have hE0 : Evo rb m m W W0 := Evo.below hb0
  have HA := Lib.hid (show Calls Try.prog 64 #[.pointer pk, .slice Aa ats.length ca] W0 (AtomsPost rb m W0 (atomsP e ats)) from
    atoms_any (fun k hk => Nat.lt_of_lt_of_le (hg.mutLt hk) (Nat.le_of_lt hs0)) (he.evo hE0) ((ha.below hb0).mono (Nat.le_of_lt hs0)))
  have HST := Lib.hid (fun (V : World) (hV : Below W0.heap.size W0 V) (ho : atomsP e ats = none) => (show EvPost rb B p inp fuel m W (sideF p inp n 4 nn ats ks bl e s) (.panicked (stopV 4)) V from by
    rw [sideF_none ho]
    have hb : Below W.heap.size W V := hb0.trans (hV.mono (Nat.le_of_lt hs0))
    exact .stuck (Evo.below hb) (hg.below hb) (thrown_one _ _)))
  have HW := Lib.hid (fun (V : World) (hV : Below W0.heap.size W0 V) => (show Below W.heap.size W V from hb0.trans (hV.mono (Nat.le_of_lt hs0))))
  have HL := Lib.hid (fun (l : List PV) (ho : atomsP e ats = some l) => atomsP_len ats l ho)
  have HE := Lib.hid (fun (V : World) (l : List PV) (A : Option Addr) (hV : Below W.heap.size W V) (ho : sideF p inp n 4 nn ats ks bl e s = rhsF p.funs inp (evF p.funs inp n) 4 nn l ks bl e s) (hr : RowZ rb m V l A) (hl : l.length = 1) => (show ∃ g T x, A = some ⟨g, 0, none⟩ ∧ V.cell? ⟨g, 0, none⟩ = some (.iface T x) ∧ Calls Try.prog 65 #[.iface T x, .int .i64 nn] V.drew fun en V' => V.drew = V' ∧ ((∃ T' x', en = .returned (.iface T' x') ∧ EvPost rb B p inp fuel m W (sideF p inp n 4 nn ats ks bl e s) (.returned (.iface T' x')) V') ∨ (en = .panicked (stopV 4) ∧ EvPost rb B p inp fuel m W (sideF p inp n 4 nn ats ks bl e s) (.panicked (stopV 4)) V')) from by
    obtain ⟨a, g, T, x, rfl, q2, q3, q4, q5, q6⟩ := hr.one hl
    have hgV := hg.below hV
    have hd : Evo rb m m V V.drew := (Evo.refl _ _ _).drew
    have hgd := hgV.below (Below.refl _ _).drew
    refine ⟨g, T, x, q2, q5, ?_⟩
    rw [ho, show rhsF p.funs inp (evF p.funs inp n) 4 nn [a] ks bl e s = fieldF a nn s by simp [rhsF]]
    refine (field_any hgd (q6.evo hd) h2.1 h2.2).mono ?_
    rintro en V' (⟨v, T', x', k1, rfl, k3, rfl⟩ | ⟨k1, rfl, rfl⟩)
    · exact ⟨rfl, .inl ⟨T', x', rfl, by rw [k1]; exact .val ((Evo.below hV).trans hd) hgd k3⟩⟩
    · exact ⟨rfl, .inr ⟨rfl, by rw [k1]; exact .stuck ((Evo.below hV).trans hd) hgd (thrown_one _ _)⟩⟩))
  have h1' := Lib.hid h1
  obtain ⟨out, hout⟩ : ∃ o, sideF p inp n 4 nn ats ks bl e s = o := ⟨_, rfl⟩
  rw [hout] at HE
  rw [hout] at HST ⊢
  have HO := Lib.hid hout
  clear hout hE0 hs0 hb0 c0 c1 c3 c4 ha hg he h1
  go_enter Try.func53, Try.ntmps53
  go_wp2_with fail
  refine HA.out.mono ?_
  rintro en w' (⟨l, A, cap, hv, rfl, hlc, hrow, hw⟩ | ⟨hv, rfl, hw⟩)
  rotate_left
  · exact ⟨rfl, HST.out _ hw hv⟩
  have hll := HL.out l hv
  have ho := HO.out.symm.trans (sideF_some hv)
  obtain ⟨d0, d1, d3, d4⟩ := HR.out w' hw
  have HWW := Lib.hid (HW.out w' hw)
  clear HA HST HR HL HW HO hv hw hW0 c2
  obtain ⟨g, T, x, rfl, q0, hq⟩ := HE.out w' l A HWW.out ho hrow (by rw [hll, h1'.out])
  have hl1 : l.length = 1 := by rw [hll, h1'.out]
  rw [hl1] at hlc ⊢
  have HQ := Lib.hid hq
  clear hrow hq ho hll hl1 HE HWW d3 d4
  go_wp2_with fail
  go_region_held2 (fun V => V.cell? ⟨g, 0, none⟩ = some (.iface T x) ∧ V.cell? ⟨W.heap.size, 1, none⟩ = some (.int .i64 nn)) (exact ⟨q0, d1⟩)
    ((go_at_call 65; refine HQ.out.mono ?_; rintro en V' ⟨rfl, hV'⟩; rcases hV' with ⟨T', x', rfl, hP⟩ | ⟨rfl, hP⟩; rotate_left; exact ⟨rfl, hP⟩))
  all_goals
    go_wp2_with fail
    go_ret
    exact hP

set_option maxRecDepth 100000 in
set_option maxHeartbeats 4000000 in
theorem side_app (hok : BodyOk rb B p inp fuel n) (hwf : ∀ g ∈ p.funs, WfA p.funs.length g.body) (hn : s.left ≤ n) (hg : Good rb B p inp fuel s m W) {ats : List Atm} {ks : List Int} {bl : List Anf} {Aa Ak Al : Option Addr} {ca ck cb : Nat} {e : PEnv} {ge : Value} (he : EnvIn rb m W e ge) (ha : AtomsIn W.heap.size W Aa ats) (nn : Int) (h1 : ats.length = 2):
    Calls Try.prog 53 #[.pointer (some ⟨rb, 0, none⟩), .agg #[.int .i64 6, .int .i64 nn, .slice Aa ats.length ca, .slice Ak ks.length ck, .slice Al bl.length cb], ge] W (EvPost rb B p inp fuel m W (sideF p inp n 6 nn ats ks bl e s)) := by
  obtain ⟨pk, rfl⟩ := he.shape
  obtain ⟨W0, hW0⟩ : ∃ W0, W.alloc (.cells #[.int .i64 6, .int .i64 nn, .slice Aa ats.length ca, .slice Ak ks.length ck, .slice Al bl.length cb] 52) = W0 := ⟨_, rfl⟩
  have hb0 : Below W.heap.size W W0 := by rw [← hW0]; exact (Below.refl _ _).alloc (Nat.le_refl _) _
  have hs0 : W.heap.size < W0.heap.size := by rw [← hW0]; simp
  have c0 : W0.cell? ⟨W.heap.size, 0, none⟩ = some (.int .i64 6) := by rw [← hW0, World.cell?_alloc_at _ _ _ _ rfl]; rfl
  have c1 : W0.cell? ⟨W.heap.size, 1, none⟩ = some (.int .i64 nn) := by rw [← hW0, World.cell?_alloc_at _ _ _ _ rfl]; rfl
  have c2 : W0.cell? ⟨W.heap.size, 2, none⟩ = some (.slice Aa ats.length ca) := by rw [← hW0, World.cell?_alloc_at _ _ _ _ rfl]; rfl
  have c3 : W0.cell? ⟨W.heap.size, 3, none⟩ = some (.slice Ak ks.length ck) := by rw [← hW0, World.cell?_alloc_at _ _ _ _ rfl]; rfl
  have c4 : W0.cell? ⟨W.heap.size, 4, none⟩ = some (.slice Al bl.length cb) := by rw [← hW0, World.cell?_alloc_at _ _ _ _ rfl]; rfl
  have HR := Lib.hid (fun (V : World) (hV : Below W0.heap.size W0 V) => (show V.cell? ⟨W.heap.size, 0, none⟩ = some (.int .i64 6) ∧ V.cell? ⟨W.heap.size, 1, none⟩ = some (.int .i64 nn) ∧ V.cell? ⟨W.heap.size, 3, none⟩ = some (.slice Ak ks.length ck) ∧ V.cell? ⟨W.heap.size, 4, none⟩ = some (.slice Al bl.length cb) from
    ⟨(hV.cell (p := ⟨W.heap.size, 0, none⟩) hs0).trans c0, (hV.cell (p := ⟨W.heap.size, 1, none⟩) hs0).trans c1, (hV.cell (p := ⟨W.heap.size, 3, none⟩) hs0).trans c3, (hV.cell (p := ⟨W.heap.size, 4, none⟩) hs0).trans c4⟩))
  have hE0 : Evo rb m m W W0 := Evo.below hb0
  have HA := Lib.hid (show Calls Try.prog 64 #[.pointer pk, .slice Aa ats.length ca] W0 (AtomsPost rb m W0 (atomsP e ats)) from
    atoms_any (fun k hk => Nat.lt_of_lt_of_le (hg.mutLt hk) (Nat.le_of_lt hs0)) (he.evo hE0) ((ha.below hb0).mono (Nat.le_of_lt hs0)))
  have HST := Lib.hid (fun (V : World) (hV : Below W0.heap.size W0 V) (ho : atomsP e ats = none) => (show EvPost rb B p inp fuel m W (sideF p inp n 6 nn ats ks bl e s) (.panicked (stopV 4)) V from by
    rw [sideF_none ho]
    have hb : Below W.heap.size W V := hb0.trans (hV.mono (Nat.le_of_lt hs0))
    exact .stuck (Evo.below hb) (hg.below hb) (thrown_one _ _)))
  have HW := Lib.hid (fun (V : World) (hV : Below W0.heap.size W0 V) => (show Below W.heap.size W V from hb0.trans (hV.mono (Nat.le_of_lt hs0))))
  have HL := Lib.hid (fun (l : List PV) (ho : atomsP e ats = some l) => atomsP_len ats l ho)
  have HE := Lib.hid (fun (V : World) (l : List PV) (A : Option Addr) (hV : Below W.heap.size W V) (ho : sideF p inp n 6 nn ats ks bl e s = rhsF p.funs inp (evF p.funs inp n) 6 nn l ks bl e s) (hr : RowZ rb m V l A) (hl : l.length = 2) => (show ∃ g T x U y, A = some ⟨g, 0, none⟩ ∧ V.cell? ⟨g, 0, none⟩ = some (.iface T x) ∧ V.cell? ⟨g, 1, none⟩ = some (.iface U y) ∧ (∀ (m' : Mem) (V' : World), Evo rb m m' V V' → V'.cell? ⟨g, 0, none⟩ = some (.iface T x) ∧ V'.cell? ⟨g, 1, none⟩ = some (.iface U y)) ∧ Calls Try.prog 66 #[.pointer (some ⟨rb, 0, none⟩), .iface T x, .iface U y] V.drew fun en V' => (∃ m', Evo rb m m' V V') ∧ EvPost rb B p inp fuel m W (sideF p inp n 6 nn ats ks bl e s) en V' from by
    obtain ⟨a, b, g, T, x, U, y, rfl, q2, q3, q4, q5, q6, q7, q8⟩ := hr.two hl
    have hgV := hg.below hV
    have hd : Evo rb m m V V.drew := (Evo.refl _ _ _).drew
    have hgd := hgV.below (Below.refl _ _).drew
    refine ⟨g, T, x, U, y, q2, q5, q6, fun m' V' hE => ⟨(cell_of_heap (hE.same g q3 q4) _).trans q5, (cell_of_heap (hE.same g q3 q4) _).trans q6⟩, ?_⟩
    rw [ho, show rhsF p.funs inp (evF p.funs inp n) 6 nn [a, b] ks bl e s = callF p.funs (evF p.funs inp n) a b s by simp [rhsF]]
    refine (call_any hok hwf a b (q7.evo hd) (q8.evo hd) hgd hn).mono fun en V' h => ?_
    obtain ⟨m', hm'⟩ := h.evo
    exact ⟨⟨m', hd.trans hm'⟩, h.from_ ((Evo.below hV).trans hd)⟩))
  have h1' := Lib.hid h1
  obtain ⟨out, hout⟩ : ∃ o, sideF p inp n 6 nn ats ks bl e s = o := ⟨_, rfl⟩
  rw [hout] at HE
  rw [hout] at HST ⊢
  have HO := Lib.hid hout
  clear hout hE0 hs0 hb0 c0 c1 c3 c4 ha hg he h1 hok hwf
  go_enter Try.func53, Try.ntmps53
  go_wp2_with fail
  refine HA.out.mono ?_
  rintro en w' (⟨l, A, cap, hv, rfl, hlc, hrow, hw⟩ | ⟨hv, rfl, hw⟩)
  rotate_left
  · exact ⟨rfl, HST.out _ hw hv⟩
  have hll := HL.out l hv
  have ho := HO.out.symm.trans (sideF_some hv)
  obtain ⟨d0, d1, d3, d4⟩ := HR.out w' hw
  have HWW := Lib.hid (HW.out w' hw)
  clear HA HST HR HL HW HO hv hw hW0 c2
  obtain ⟨g, T, x, U, y, rfl, q0, q1, hS, hq⟩ := HE.out w' l A HWW.out ho hrow (by rw [hll, h1'.out])
  have hl1 : l.length = 2 := by rw [hll, h1'.out]
  rw [hl1] at hlc ⊢
  have HQ := Lib.hid hq
  have HS := Lib.hid hS
  clear hrow hq hS ho hll hl1 HE HWW d3 d4 d1
  go_wp2_with fail
  go_region_held2 (fun V => V.cell? ⟨g, 0, none⟩ = some (.iface T x) ∧ V.cell? ⟨g, 1, none⟩ = some (.iface U y)) (first | exact ⟨q0, q1⟩ | exact HS.out _ _ hEV)
    ((go_at_call 66; refine HQ.out.mono ?_; rintro en V' ⟨⟨mE, hEV⟩, h⟩; rcases h.ends with ⟨g', rfl, hP⟩ | ⟨ch, rfl, hP⟩; rotate_left; exact ⟨rfl, hP⟩))
  all_goals
    go_wp2_with fail
    go_ret
    exact hP

set_option maxRecDepth 100000 in
set_option maxHeartbeats 4000000 in
theorem side_prim (hok : BodyOk rb B p inp fuel n) (hwf : ∀ g ∈ p.funs, WfA p.funs.length g.body) (hn : s.left ≤ n) (hs : s.out.length + s.left < fuel) (hg : Good rb B p inp fuel s m W) {ats : List Atm} {ks : List Int} {bl : List Anf} {Aa Ak Al : Option Addr} {ca ck cb : Nat} {e : PEnv} {ge : Value} (he : EnvIn rb m W e ge) (ha : AtomsIn W.heap.size W Aa ats) (nn : Int) (h1 : ats.length = if twoF nn then 2 else 1) (h2 : 1 ≤ nn ∧ nn ≤ 16):
    Calls Try.prog 53 #[.pointer (some ⟨rb, 0, none⟩), .agg #[.int .i64 2, .int .i64 nn, .slice Aa ats.length ca, .slice Ak ks.length ck, .slice Al bl.length cb], ge] W (EvPost rb B p inp fuel m W (sideF p inp n 2 nn ats ks bl e s)) := by
  obtain ⟨pk, rfl⟩ := he.shape
  obtain ⟨W0, hW0⟩ : ∃ W0, W.alloc (.cells #[.int .i64 2, .int .i64 nn, .slice Aa ats.length ca, .slice Ak ks.length ck, .slice Al bl.length cb] 52) = W0 := ⟨_, rfl⟩
  have hb0 : Below W.heap.size W W0 := by rw [← hW0]; exact (Below.refl _ _).alloc (Nat.le_refl _) _
  have hs0 : W.heap.size < W0.heap.size := by rw [← hW0]; simp
  have c0 : W0.cell? ⟨W.heap.size, 0, none⟩ = some (.int .i64 2) := by rw [← hW0, World.cell?_alloc_at _ _ _ _ rfl]; rfl
  have c1 : W0.cell? ⟨W.heap.size, 1, none⟩ = some (.int .i64 nn) := by rw [← hW0, World.cell?_alloc_at _ _ _ _ rfl]; rfl
  have c2 : W0.cell? ⟨W.heap.size, 2, none⟩ = some (.slice Aa ats.length ca) := by rw [← hW0, World.cell?_alloc_at _ _ _ _ rfl]; rfl
  have c3 : W0.cell? ⟨W.heap.size, 3, none⟩ = some (.slice Ak ks.length ck) := by rw [← hW0, World.cell?_alloc_at _ _ _ _ rfl]; rfl
  have c4 : W0.cell? ⟨W.heap.size, 4, none⟩ = some (.slice Al bl.length cb) := by rw [← hW0, World.cell?_alloc_at _ _ _ _ rfl]; rfl
  have HR := Lib.hid (fun (V : World) (hV : Below W0.heap.size W0 V) => (show V.cell? ⟨W.heap.size, 0, none⟩ = some (.int .i64 2) ∧ V.cell? ⟨W.heap.size, 1, none⟩ = some (.int .i64 nn) ∧ V.cell? ⟨W.heap.size, 3, none⟩ = some (.slice Ak ks.length ck) ∧ V.cell? ⟨W.heap.size, 4, none⟩ = some (.slice Al bl.length cb) from
    ⟨(hV.cell (p := ⟨W.heap.size, 0, none⟩) hs0).trans c0, (hV.cell (p := ⟨W.heap.size, 1, none⟩) hs0).trans c1, (hV.cell (p := ⟨W.heap.size, 3, none⟩) hs0).trans c3, (hV.cell (p := ⟨W.heap.size, 4, none⟩) hs0).trans c4⟩))
  have hE0 : Evo rb m m W W0 := Evo.below hb0
  have HA := Lib.hid (show Calls Try.prog 64 #[.pointer pk, .slice Aa ats.length ca] W0 (AtomsPost rb m W0 (atomsP e ats)) from
    atoms_any (fun k hk => Nat.lt_of_lt_of_le (hg.mutLt hk) (Nat.le_of_lt hs0)) (he.evo hE0) ((ha.below hb0).mono (Nat.le_of_lt hs0)))
  have HST := Lib.hid (fun (V : World) (hV : Below W0.heap.size W0 V) (ho : atomsP e ats = none) => (show EvPost rb B p inp fuel m W (sideF p inp n 2 nn ats ks bl e s) (.panicked (stopV 4)) V from by
    rw [sideF_none ho]
    have hb : Below W.heap.size W V := hb0.trans (hV.mono (Nat.le_of_lt hs0))
    exact .stuck (Evo.below hb) (hg.below hb) (thrown_one _ _)))
  have HW := Lib.hid (fun (V : World) (hV : Below W0.heap.size W0 V) => (show Below W.heap.size W V from hb0.trans (hV.mono (Nat.le_of_lt hs0))))
  have HL := Lib.hid (fun (l : List PV) (ho : atomsP e ats = some l) => atomsP_len ats l ho)
  have HE := Lib.hid (fun (V : World) (l : List PV) (A : Option Addr) (cap : Nat) (hV : Below W.heap.size W V) (ho : sideF p inp n 2 nn ats ks bl e s = rhsF p.funs inp (evF p.funs inp n) 2 nn l ks bl e s) (hr : RowZ rb m V l A) (hl : l.length = ats.length) => (show Calls Try.prog 67 #[.pointer (some ⟨rb, 0, none⟩), .int .i64 nn, .slice A l.length cap] V (EvPost rb B p inp fuel m W (sideF p inp n 2 nn ats ks bl e s)) from by
    have hp : 0 < l.length := by rw [hl, h1]; split <;> omega
    obtain ⟨g, F, rfl, q2, q3, q4, q5⟩ := hr hp
    have hgV := hg.below hV
    rw [ho, show rhsF p.funs inp (evF p.funs inp n) 2 nn l ks bl e s = primF p.funs inp (evF p.funs inp n) nn l s by simp [rhsF]]
    exact (prim_any hok hwf hgV hn hs h2.1 h2.2 (l := l) (g := g) (cap := cap) (F := F) (by rw [hl, h1]) ⟨q2, q3, q4, q5⟩).mono fun en V' h => h.from_ (Evo.below hV)))
  obtain ⟨out, hout⟩ : ∃ o, sideF p inp n 2 nn ats ks bl e s = o := ⟨_, rfl⟩
  rw [hout] at HE
  rw [hout] at HST ⊢
  have HO := Lib.hid hout
  clear hout hE0 hs0 hb0 c0 c1 c3 c4 ha hg he h1 hok hwf h2
  go_enter Try.func53, Try.ntmps53
  go_wp2_with fail
  refine HA.out.mono ?_
  rintro en w' (⟨l, A, cap, hv, rfl, hlc, hrow, hw⟩ | ⟨hv, rfl, hw⟩)
  rotate_left
  · exact ⟨rfl, HST.out _ hw hv⟩
  have hll := HL.out l hv
  have ho := HO.out.symm.trans (sideF_some hv)
  obtain ⟨d0, d1, d3, d4⟩ := HR.out w' hw
  have HWW := Lib.hid (HW.out w' hw)
  clear HA HST HR HL HW HO hv hw hW0 c2
  have HQ := Lib.hid (HE.out w' l A cap HWW.out ho hrow hll)
  clear hrow ho hll HE HWW d3 d4
  go_wp2_with fail
  refine HQ.out.mono ?_
  intro en V' h
  rcases h.ends with ⟨g', rfl, hP⟩ | ⟨ch, rfl, hP⟩
  · go_wp2_with fail
    go_ret
    exact hP
  · exact ⟨rfl, hP⟩

end
end Go.Proofs.Ytnobggabjpcbfaa

/-
  The flat evaluator: switches; a right side of any kind.
-/
set_option linter.unusedVariables false
set_option linter.unusedSimpArgs false
namespace Go.Proofs.Ytnobggabjpcbfaa
open Go.RowKit

theorem whichAt_found {ks : List Int} {key : Int} {j : Nat} (hj : j < ks.length) (h : nth ks j = key) (hn : ∀ i, i < j → nth ks i ≠ key) : whichAt ks key = j + 1 := by
  have : ks.findIdx? (· == key) = some j := by
    rw [List.findIdx?_eq_some_iff_getElem]
    refine ⟨hj, by rw [nth_eq ks hj] at h; simp [h], fun i hi => ?_⟩
    have := hn i hi
    rw [nth_eq ks (by omega)] at this
    simpa using this
  simp [whichAt, this]
theorem whichAt_none {ks : List Int} {key : Int} (hn : ∀ i, i < ks.length → nth ks i ≠ key) : whichAt ks key = 0 := by
  have : ks.findIdx? (· == key) = none := by
    rw [List.findIdx?_eq_none_iff]
    intro x hx
    obtain ⟨i, hi, rfl⟩ := List.getElem_of_mem hx
    have := hn i hi
    rw [nth_eq ks hi] at this
    simpa using this
  simp [whichAt, this]


/-- blocks in memory -/
def BlocksIn (B : Nat) (W : World) (Al : Option Addr) (bl : List Anf) : Prop :=
  bl.length * 40 ≤ 140737488351232 ∧ ∀ j (h : j < bl.length), ∃ bb oo g0 g1 g2, Al = some ⟨bb, oo, none⟩ ∧ bb < B ∧ W.cell? ⟨bb, oo + j * 3, none⟩ = some g0 ∧ W.cell? ⟨bb, oo + j * 3 + 1, none⟩ = some g1 ∧ W.cell? ⟨bb, oo + j * 3 + 2, none⟩ = some g2 ∧ BodyIn B W bl[j] #[g0, g1, g2]
section
variable {rb B : Nat} {p : FlatP} {inp : List Int} {fuel n : Nat} {s : FSt} {m : Mem} {W : World}

set_option maxRecDepth 100000 in
set_option maxHeartbeats 4000000 in
theorem side_switch (hok : BodyOk rb B p inp fuel n) (hn : s.left < n) (hg : Good rb B p inp fuel s m W) {ats : List Atm} {ks : List Int} {bl : List Anf} {Aa Ak Al : Option Addr} {ca ck cb : Nat} {e : PEnv} {ge : Value} (he : EnvIn rb m W e ge) (ha : AtomsIn W.heap.size W Aa ats) (nn : Int) (h1 : ats.length = 1) (h2 : bl.length = ks.length + 1) (hk : IntsIn W.heap.size W Ak ks) (hkc : ks.length ≤ ck) (hbl : BlocksIn B W Al bl) (hblc : bl.length ≤ cb) (hwb : ∀ c ∈ bl, WfA p.funs.length c):
    Calls Try.prog 53 #[.pointer (some ⟨rb, 0, none⟩), .agg #[.int .i64 8, .int .i64 nn, .slice Aa ats.length ca, .slice Ak ks.length ck, .slice Al bl.length cb], ge] W (EvPost rb B p inp fuel m W (sideF p inp n 8 nn ats ks bl e s)) := by
  obtain ⟨pk, rfl⟩ := he.shape
  obtain ⟨W0, hW0⟩ : ∃ W0, W.alloc (.cells #[.int .i64 8, .int .i64 nn, .slice Aa ats.length ca, .slice Ak ks.length ck, .slice Al bl.length cb] 52) = W0 := ⟨_, rfl⟩
  have hb0 : Below W.heap.size W W0 := by rw [← hW0]; exact (Below.refl _ _).alloc (Nat.le_refl _) _
  have hs0 : W.heap.size < W0.heap.size := by rw [← hW0]; simp
  have c0 : W0.cell? ⟨W.heap.size, 0, none⟩ = some (.int .i64 8) := by rw [← hW0, World.cell?_alloc_at _ _ _ _ rfl]; rfl
  have c1 : W0.cell? ⟨W.heap.size, 1, none⟩ = some (.int .i64 nn) := by rw [← hW0, World.cell?_alloc_at _ _ _ _ rfl]; rfl
  have c2 : W0.cell? ⟨W.heap.size, 2, none⟩ = some (.slice Aa ats.length ca) := by rw [← hW0, World.cell?_alloc_at _ _ _ _ rfl]; rfl
  have c3 : W0.cell? ⟨W.heap.size, 3, none⟩ = some (.slice Ak ks.length ck) := by rw [← hW0, World.cell?_alloc_at _ _ _ _ rfl]; rfl
  have c4 : W0.cell? ⟨W.heap.size, 4, none⟩ = some (.slice Al bl.length cb) := by rw [← hW0, World.cell?_alloc_at _ _ _ _ rfl]; rfl
  have HR := Lib.hid (fun (V : World) (hV : Below W0.heap.size W0 V) => (show V.cell? ⟨W.heap.size, 0, none⟩ = some (.int .i64 8) ∧ V.cell? ⟨W.heap.size, 1, none⟩ = some (.int .i64 nn) ∧ V.cell? ⟨W.heap.size, 3, none⟩ = some (.slice Ak ks.length ck) ∧ V.cell? ⟨W.heap.size, 4, none⟩ = some (.slice Al bl.length cb) from
    ⟨(hV.cell (p := ⟨W.heap.size, 0, none⟩) hs0).trans c0, (hV.cell (p := ⟨W.heap.size, 1, none⟩) hs0).trans c1, (hV.cell (p := ⟨W.heap.size, 3, none⟩) hs0).trans c3, (hV.cell (p := ⟨W.heap.size, 4, none⟩) hs0).trans c4⟩))
  have hE0 : Evo rb m m W W0 := Evo.below hb0
  have HA := Lib.hid (show Calls Try.prog 64 #[.pointer pk, .slice Aa ats.length ca] W0 (AtomsPost rb m W0 (atomsP e ats)) from
    atoms_any (fun k hk => Nat.lt_of_lt_of_le (hg.mutLt hk) (Nat.le_of_lt hs0)) (he.evo hE0) ((ha.below hb0).mono (Nat.le_of_lt hs0)))
  have HST := Lib.hid (fun (V : World) (hV : Below W0.heap.size W0 V) (ho : atomsP e ats = none) => (show EvPost rb B p inp fuel m W (sideF p inp n 8 nn ats ks bl e s) (.panicked (stopV 4)) V from by
    rw [sideF_none ho]
    have hb : Below W.heap.size W V := hb0.trans (hV.mono (Nat.le_of_lt hs0))
    exact .stuck (Evo.below hb) (hg.below hb) (thrown_one _ _)))
  have HW := Lib.hid (fun (V : World) (hV : Below W0.heap.size W0 V) => (show Below W.heap.size W V from hb0.trans (hV.mono (Nat.le_of_lt hs0))))
  have HL := Lib.hid (fun (l : List PV) (ho : atomsP e ats = some l) => atomsP_len ats l ho)
  have hEN := he
  have HE := Lib.hid (fun (V : World) (l : List PV) (A : Option Addr) (hV : Below W.heap.size W V) (ho : sideF p inp n 8 nn ats ks bl e s = rhsF p.funs inp (evF p.funs inp n) 8 nn l ks bl e s) (hr : RowZ rb m V l A) (hl : l.length = 1) => (show ∃ a g T x, A = some ⟨g, 0, none⟩ ∧ V.cell? ⟨g, 0, none⟩ = some (.iface T x) ∧ Calls Try.prog 35 #[.iface T x] V (AskedPost (keyOf a) V) ∧ (keyOf a = none → EvPost rb B p inp fuel m W (sideF p inp n 8 nn ats ks bl e s) (.panicked (stopV 4)) V) ∧
      ∀ key, keyOf a = some key → ∀ j, j < bl.length → whichAt ks key = j → ∃ bb oo A0 n0 d0 v0 v1, Al = some ⟨bb, oo, none⟩ ∧ V.cell? ⟨bb, oo + j * 3, none⟩ = some (.slice A0 n0 d0) ∧ V.cell? ⟨bb, oo + j * 3 + 1, none⟩ = some (.bool v0) ∧ V.cell? ⟨bb, oo + j * 3 + 2, none⟩ = some (.int .i64 v1) ∧
        Calls Try.prog 36 #[.pointer (some ⟨rb, 0, none⟩), .agg #[.slice A0 n0 d0, .bool v0, .int .i64 v1], .pointer pk] V (EvPost rb B p inp fuel m W (sideF p inp n 8 nn ats ks bl e s)) from by
    obtain ⟨a, g, T, x, rfl, q2, q3, q4, q5, q6⟩ := hr.one hl
    have hgV := hg.below hV
    have hE := Evo.below (rb := rb) (m := m) hV
    refine ⟨a, g, T, x, q2, q5, key_any q6, fun hk0 => ?_, fun key hk0 j hj hwa => ?_⟩
    · rw [ho, show rhsF p.funs inp (evF p.funs inp n) 8 nn [a] ks bl e s = (.stuck, s) by simp [rhsF, hk0]]
      exact .stuck hE hgV (thrown_one _ _)
    · obtain ⟨bb, oo, g0, g1, g2, e1, e2, e3, e4, e5, hbd⟩ := hbl.2 j hj
      have hbB := hV.mono hg.Bs
      have hbd2 := hbd.kept hbB
      obtain ⟨A0, d0, b0, o0, hvv, -⟩ := hbd.at_
      simp only [Array.mk.injEq, List.cons.injEq, and_true] at hvv
      obtain ⟨rfl, rfl, rfl⟩ := hvv
      refine ⟨bb, oo, A0, _, d0, _, _, e1, (hbB.cell (p := ⟨_, _, none⟩) e2).trans e3, (hbB.cell (p := ⟨_, _, none⟩) e2).trans e4, (hbB.cell (p := ⟨_, _, none⟩) e2).trans e5, ?_⟩
      rw [ho, show rhsF p.funs inp (evF p.funs inp n) 8 nn [a] ks bl e s = evF p.funs inp n bl[j] e s by simp [rhsF, hk0, hwa, hj]]
      exact (hok _ _ _ m V _ _ hbd2 (hwb _ (List.getElem_mem hj)) (hEN.evo hE) hgV hn).mono fun en V' h => h.from_ hE))
  have h1' := Lib.hid h1
  have H2 := Lib.hid h2
  have HK := Lib.hid (fun (V : World) (hV : Below W.heap.size W V) (j : Nat) (hj : j < ks.length) => (show ∃ bk ok, Ak = some ⟨bk, ok, none⟩ ∧ V.cell? ⟨bk, ok + j, none⟩ = some (.int .i64 (nth ks j)) from by
    obtain ⟨bk, ok, h1, h2, h3⟩ := hk.at_ (by omega)
    exact ⟨bk, ok, h1, (hV.cell (p := ⟨_, _, none⟩) h2).trans (h3 j hj)⟩))
  have hk64 := hk.1
  have hb64 := hbl.1
  obtain ⟨out, hout⟩ : ∃ o, sideF p inp n 8 nn ats ks bl e s = o := ⟨_, rfl⟩
  rw [hout] at HE
  rw [hout] at HST ⊢
  have HO := Lib.hid hout
  clear hout hE0 hs0 hb0 c0 c1 c3 c4 ha hg he h1 hok hEN hk hbl hwb hn h2
  go_enter Try.func53, Try.ntmps53
  go_wp2_with fail
  refine HA.out.mono ?_
  rintro en w' (⟨l, A, cap, hv, rfl, hlc, hrow, hw⟩ | ⟨hv, rfl, hw⟩)
  rotate_left
  · exact ⟨rfl, HST.out _ hw hv⟩
  have hll := HL.out l hv
  have ho := HO.out.symm.trans (sideF_some hv)
  obtain ⟨d0, d1, d3, d4⟩ := HR.out w' hw
  have HWW := Lib.hid (HW.out w' hw)
  clear HA HST HR HL HW HO hv hw hW0 c2
  obtain ⟨a, g, T, x, rfl, q0, hkey, hnone, hsome⟩ := HE.out w' l A HWW.out ho hrow (by rw [hll, h1'.out])
  have hl1 : l.length = 1 := by rw [hll, h1'.out]
  rw [hl1] at hlc ⊢
  have HKEY := Lib.hid hkey
  have HNO := Lib.hid hnone
  have HSO := Lib.hid hsome
  have HKK := Lib.hid (HK.out w' HWW.out)
  clear hrow ho hll hl1 HE HWW hkey hnone hsome HK
  obtain ⟨KL, hKL⟩ : ∃ L, ks.length = L := ⟨_, rfl⟩
  have HKL := Lib.hid hKL
  have h2 := H2.out
  rw [h2] at d4 hblc hb64
  rw [hKL] at d3 d4 hkc hk64 hblc hb64
  clear h2 hKL
  go_wp2_with (go_at_call 35; refine HKEY.out.mono ?_; rintro en V' (⟨key, hkk, rfl, rfl⟩ | ⟨hkk, rfl, rfl⟩); rotate_left; exact ⟨rfl, HNO.out hkk⟩)
  have HSK := Lib.hid (HSO.out key hkk)
  clear HSO HNO HKEY hkk
  go_loopw [65] (fun iv wr => ∃ j : Nat, j ≤ KL ∧ iv = .int .i64 (j : Int) ∧ wr = w' ∧ Hid (∀ i, i < j → nth ks i ≠ key)) (fun iv _ => KL + 1 - (intOf iv).toNat)
  case atStart => exact ⟨0, by omega, rfl, rfl, Lib.hid (fun i hi => by omega)⟩
  case round =>
    obtain ⟨j, hj, rfl, rfl, HNE⟩ := hrel
    by_cases hlt : j < KL
    · obtain ⟨bk, ok, rfl, kc⟩ := HKK.out j (by rw [HKL.out]; exact hlt)
      have hj0 : (0 : Int) ≤ (j : Int) := by omega
      have hjk : (j : Int) < (KL : Int) := by omega
      have w1 : IntKind.i64.wrap ((j : Int) + 1) = (j : Int) + 1 := by rw [IntKind.wrap_i64]; omega
      have w1' : IntKind.i64.wrap (1 + (j : Int)) = 1 + (j : Int) := by rw [IntKind.wrap_i64]; omega
      by_cases heq : nth ks j = key
      · have hb : (nth ks j == key) = true := by simpa using heq
        obtain ⟨bb, oo, A0, n0, dd0, v0, v1, rfl, y0, y1, y2, hC⟩ := HSK.out (j + 1) (by rw [H2.out, HKL.out]; omega) (whichAt_found (by rw [HKL.out]; exact hlt) heq HNE.out)
        have HC := Lib.hid hC
        have w2 : (0 : Int) ≤ 1 + (j : Int) := by omega
        have w3 : 1 + (j : Int) < (KL : Int) + 1 := by omega
        have w4 : (1 + (j : Int)).toNat = j + 1 := by omega
        have w5 : (KL : Int) + 1 ≤ (cb : Int) := by omega
        clear hC heq
        go_wp2_with fail
        refine HC.out.mono ?_
        intro en V' h
        rcases h.ends with ⟨g', rfl, hP⟩ | ⟨ch, rfl, hP⟩
        · go_wp2_with fail
          go_ret
          exact hP
        · exact ⟨rfl, hP⟩
      · have hb : (nth ks j == key) = false := by simpa using heq
        have HN2 := Lib.hid (show ∀ i, i < j + 1 → nth ks i ≠ key from fun i hi => by
          by_cases hij : i = j
          · subst hij; exact heq
          · exact HNE.out i (by omega))
        clear heq
        go_wp2_with fail
        go_roundw
        case rel => exact ⟨j + 1, by omega, by go_num, (by first | rfl | trivial), HN2⟩
        case measure => simp [intOf]; omega
    · have hjk : j = KL := by omega
      subst hjk
      obtain ⟨bb, oo, A0, n0, dd0, v0, v1, rfl, y0, y1, y2, hC⟩ := HSK.out 0 (by rw [H2.out]; omega) (whichAt_none (by rw [HKL.out]; exact HNE.out))
      have HC := Lib.hid hC
      have w2 : (0 : Int) < (j : Int) + 1 := by omega
      have w5 : (j : Int) + 1 ≤ (cb : Int) := by omega
      simp only [Nat.zero_mul, Nat.add_zero] at y0 y1 y2
      clear hC
      go_wp2_with fail
      refine HC.out.mono ?_
      intro en V' h
      rcases h.ends with ⟨g', rfl, hP⟩ | ⟨ch, rfl, hP⟩
      · go_wp2_with fail
        go_ret
        exact hP
      · exact ⟨rfl, hP⟩

theorem side_any (hok : BodyOk rb B p inp fuel n) (hwf : ∀ g ∈ p.funs, WfA p.funs.length g.body) (hn : s.left < n) (hs : s.out.length + s.left < fuel) (hg : Good rb B p inp fuel s m W) {x k nn : Int} {ats : List Atm} {ks : List Int} {bl : List Anf} {Aa Ak Al : Option Addr} {ca ck cb : Nat} {e : PEnv} {ge : Value} (he : EnvIn rb m W e ge) (hb : BindOk p.funs.length x k nn ats ks bl.length) (hk10 : k ≠ 10)
    (ha : AtomsIn W.heap.size W Aa ats) (hk : IntsIn W.heap.size W Ak ks) (hkc : ks.length ≤ ck) (hbl : BlocksIn B W Al bl) (hblc : bl.length ≤ cb) (hwb : ∀ c ∈ bl, WfA p.funs.length c) :
    Calls Try.prog 53 #[.pointer (some ⟨rb, 0, none⟩), .agg #[.int .i64 k, .int .i64 nn, .slice Aa ats.length ca, .slice Ak ks.length ck, .slice Al bl.length cb], ge] W (EvPost rb B p inp fuel m W (sideF p inp n k nn ats ks bl e s)) := by
  rcases hb.kind with rfl | rfl | rfl | rfl | rfl | rfl | rfl | rfl
  · exact side_atom hg he ha nn (hb.one (.inl rfl))
  · exact side_prim hok hwf (by omega) hs hg he ha nn hb.primL (hb.prim rfl)
  · exact side_block hg he ha nn hb.block
  · exact side_field hg he ha nn (hb.one (.inr (.inl rfl))) hb.field
  · exact side_app hok hwf (by omega) hg he ha nn hb.app
  · exact side_switch hok hn hg he ha nn (hb.one (.inr (.inr rfl))) hb.switch hk hkc hbl hblc hwb
  · exact side_close hg he ha nn hb.close
  · exact absurd rfl hk10

end
end Go.Proofs.Ytnobggabjpcbfaa
