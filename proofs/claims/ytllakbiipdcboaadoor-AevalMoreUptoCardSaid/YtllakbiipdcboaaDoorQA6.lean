/-
  3 texts of this seat in one: PH11 PA1 PA2.
-/
import Derived.Test.YtllakbiipdcboaaDoorQA5
import Derived.Test.YtllakbiipdcboaaDoorQA3
import Derived.Test.YtllakbiipdcboaaDoorQA4
/-
  The flat evaluator: primitives on two ints; print; try.
-/
set_option linter.unusedVariables false
set_option linter.unusedSimpArgs false
namespace Go.Proofs.YtllakbiipdcboaaDoor
open Go.RowKit

theorem infoInt : (Tryd.prog.info? 3).map (fun i => (i.zero, i.size, i.bytes)) = some (some (.int .i64 0), 1, 8) := by kernel_rfl
theorem undInts : Tryd.prog.underlying 27 = some (.slice 3) := by kernel_rfl
section
variable {rb B : Nat} {p : FlatP} {inp : List Int} {fuel n : Nat} {s : FSt} {m : Mem} {W : World}

def arithP (p : Int) (a b : PV) (s : FSt) : FOut :=
  match numOf a, numOf b with
  | some x, some y => (match doP p x y with | some n => (.val (.int n), s) | none => (.raised (.int 0), s))
  | _, _ => (.stuck, s)

set_option maxRecDepth 100000 in
set_option maxHeartbeats 2000000 in
theorem prim_arith (hg : Good rb B p inp fuel s m W) {q : Int} (hp1 : 1 ≤ q) (hp9 : q ≤ 9) {a b : PV} {T U : TypeId} {x y : Value} (ha : RepV rb m W a (.iface T x)) (hb : RepV rb m W b (.iface U y)) {g cap : Nat} (c0 : W.cell? ⟨g, 0, none⟩ = some (.iface T x)) (c1 : W.cell? ⟨g, 1, none⟩ = some (.iface U y)) :
    Calls Tryd.prog 43 #[.pointer (some ⟨rb, 0, none⟩), .int .i64 q, .slice (some ⟨g, 0, none⟩) 2 cap] W (EvPost rb B p inp fuel m W (arithP q a b s)) := by
  have e10 : (q == 10) = false := by simp; omega
  have e11 : (q == 11) = false := by simp; omega
  have e12 : (q == 12) = false := by simp; omega
  have e13 : (q == 13) = false := by simp; omega
  have e14 : (q == 14) = false := by simp; omega
  have e15 : (q == 15) = false := by simp; omega
  have e16 : (q == 16) = false := by simp; omega
  have hd : Evo rb m m W W.drew := (Evo.refl _ _ _).drew
  have HA := Lib.hid (cnumber_any (ha.evo hd))
  have HB := Lib.hid (cnumber_any (hb.evo hd))
  have HS := Lib.hid (fun (h : numOf a = none ∨ numOf b = none) => (show EvPost rb B p inp fuel m W (arithP q a b s) (.panicked (stopV 4)) W.drew from by
    have : arithP q a b s = (.stuck, s) := by
      unfold arithP
      rcases h with h | h
      · rw [h]
      · rw [h]; cases numOf a <;> rfl
    rw [this]
    exact EvPost.stuck hd (hg.below (Below.refl _ _).drew) (thrown_one _ _)))
  have HV := Lib.hid (fun (i j k : Int) (hi : numOf a = some i) (hj : numOf b = some j) (w' : World) (hw : Below W.heap.size W w') (hk : doP q i j = some k) => (show EvPost rb B p inp fuel m W (arithP q a b s) (.returned (.iface 88 (.int .i64 k))) w' from by
    have : arithP q a b s = (.val (.int k), s) := by unfold arithP; rw [hi, hj]; simp [hk]
    rw [this]
    exact EvPost.val (Evo.below hw) (hg.below hw) (.int k)))
  have HR := Lib.hid (fun (i j : Int) (hi : numOf a = some i) (hj : numOf b = some j) (w' : World) (hw : Below W.heap.size W w') (hk : doP q i j = none) => (show EvPost rb B p inp fuel m W (arithP q a b s) (.panicked (raisedV (.iface 88 (.int .i64 0)))) w' from by
    have : arithP q a b s = (.raised (.int 0), s) := by unfold arithP; rw [hi, hj]; simp [hk]
    rw [this]
    exact EvPost.raised (Evo.below hw) (hg.below hw) (.int 0) ⟨0, rfl⟩ (thrown_one _ _)))
  generalize arithP q a b s = o at *
  have HD := Lib.hid (fun (i j : Int) => do_any q i j hp1 hp9 W.drew)
  clear hg ha hb hd hp1 hp9
  go_enter Tryd.func43, Tryd.ntmps43
  go_wp2_with fail
  go_region_held2 (fun w' => w'.cell? ⟨g, 0, none⟩ = some (.iface T x) ∧ w'.cell? ⟨g, 1, none⟩ = some (.iface U y)) (exact ⟨c0, c1⟩)
    ((first
      | (go_at_call 53; (with_reducible refine HA.out.mono ?_); rintro e w' (⟨i, hi, rfl, rfl⟩ | ⟨hi, rfl, rfl⟩); rotate_left; exact ⟨rfl, HS.out (.inl hi)⟩)
      | (go_at_call 53; (with_reducible refine HB.out.mono ?_); rintro e w' (⟨j, hj, rfl, rfl⟩ | ⟨hj, rfl, rfl⟩); rotate_left; exact ⟨rfl, HS.out (.inr hj)⟩)))
  go_wp2_with fail
  refine (HD.out i j).mono ?_
  rintro e w' (⟨k, hk, rfl, hw⟩ | ⟨hk, rfl, hw⟩)
  · go_wp2_with fail
    go_ret
    exact HV.out i j k hi hj _ ⟨hw.os, hw.tape, hw.output, hw.size, hw.block⟩ hk
  · go_wp2_with fail
    exact ⟨rfl, HR.out i j hi hj _ ⟨hw.os, hw.tape, hw.output, hw.size, hw.block⟩ hk⟩

theorem ownsRow_shape {w : World} {base : Nat} {e : TypeId} {size : Nat} {v : Value} {n : Nat} {xs : List Value} (h : w.ownsRow base e size v n xs) : ∃ A k c, v = .slice A k c := by
  rcases h.2 with ⟨rfl, _⟩ | ⟨g, cap, cur, rfl, _⟩ <;> exact ⟨_, _, _, rfl⟩

set_option maxRecDepth 100000 in
set_option maxHeartbeats 2000000 in
theorem prim_print (hg : Good rb B p inp fuel s m W) (hs : s.out.length + s.left < fuel) {a : PV} {T : TypeId} {x : Value} (ha : RepV rb m W a (.iface T x)) {g cap : Nat} (hgr : g ≠ rb) (c0 : W.cell? ⟨g, 0, none⟩ = some (.iface T x)) :
    Calls Tryd.prog 43 #[.pointer (some ⟨rb, 0, none⟩), .int .i64 13, .slice (some ⟨g, 0, none⟩) 1 cap] W (EvPost rb B p inp fuel m W (match numOf a with | some k => (.val (.int 0), { s with out := s.out ++ [k] }) | none => (.stuck, s))) := by
  have hd : Evo rb m m W W.drew := (Evo.refl _ _ _).drew
  have HA := Lib.hid (cnumber_any (ha.evo hd))
  obtain ⟨i0, hinf, hz0, hz1, hz2⟩ := info_parts infoInt
  have hS := Lib.hid (fun (h : numOf a = none) => (show EvPost rb B p inp fuel m W (match numOf a with | some k => (.val (.int 0), { s with out := s.out ++ [k] }) | none => (.stuck, s)) (.panicked (stopV 4)) W.drew from by
    rw [h]
    exact EvPost.stuck hd (hg.below (Below.refl _ _).drew) (thrown_one _ _)))
  have HV := Lib.hid (fun (k : Int) (hk : numOf a = some k) (w1 : World) (v' : Value) (h1 : w1.ownsRow B 3 1 v' (s.out.length + 1) (s.out.map (Value.int .i64) ++ [.int .i64 k])) (h2 : (W.drew.alloc (.cells #[.int .i64 k] 3)).grownBy w1 m.vo.ownBlock)
      (hat : v'.ownBlock = m.vo.ownBlock ∨ v'.ownBlock = some (W.drew.alloc (.cells #[.int .i64 k] 3)).heap.size) => (show EvPost rb B p inp fuel m W (match numOf a with | some k => (.val (.int 0), { s with out := s.out ++ [k] }) | none => (.stuck, s)) (.returned (.iface 88 (.int .i64 0))) (w1.setCell ⟨rb, 4, none⟩ v') from by
    obtain ⟨q1, q2⟩ := hg.print hs ((Below.refl _ W).drew.alloc (Nat.le_refl _) (.cells #[.int .i64 k] 3)) h1 h2 hat
    rw [hk]
    exact EvPost.val q2 q1 (.int 0)))
  generalize (match numOf a with | some k => ((.val (.int 0), { s with out := s.out ++ [k] }) : FOut) | none => (.stuck, s)) = o at *
  obtain ⟨Ai, ci, hr, hii, hci⟩ := hg.run
  have cr : W.cell? ⟨rb, 4, none⟩ = some m.vo := by simp [World.cell?, hr]
  have fr : W.frozen? ⟨rb, 4, none⟩ = false := by simp [World.frozen?, hr]
  have hrbl := World.block_lt_of_cell? _ _ cr
  have hown := hg.out
  have hon := hg.rbo
  have hlen : s.out.length ≤ 1000000 := by have := hg.fuelB; have := hg.bnd; omega
  have hBs := hg.Bs
  have hgl := World.block_lt_of_cell? _ _ c0
  have hown2 : ∀ i : Int, ((W.alloc (.cells #[.int .i64 i] 3)).drew).ownsRow B 3 1 m.vo s.out.length (s.out.map (Value.int .i64)) := fun i => World.ownsRow.drew (World.ownsRow.alloc hown _)
  have hcr2 : ∀ i : Int, ((W.alloc (.cells #[.int .i64 i] 3)).drew).cell? ⟨rb, 4, none⟩ = some m.vo := fun i => (World.cell?_alloc_lt W _ _ hrbl).trans cr
  have hfr2 : ∀ i : Int, ((W.alloc (.cells #[.int .i64 i] 3)).drew).frozen? ⟨rb, 4, none⟩ = false := fun i => (((Below.refl _ W).alloc (Nat.le_refl _) (.cells #[.int .i64 i] 3)).frozen (p := ⟨rb, 4, none⟩) hrbl).trans fr
  replace hrbl : rb < W.heap.size := hrbl
  replace hgl : g < W.heap.size := hgl
  have hrl2 : ∀ i : Int, rb < ((W.alloc (.cells #[.int .i64 i] 3)).drew).heap.size := fun i => (show rb < (W.alloc (.cells #[.int .i64 i] 3)).heap.size from by rw [World.size_alloc]; omega)
  have hrn : some rb ≠ m.vo.ownBlock := fun e => hon e.symm
  clear hg ha hd hs hr hii hci
  generalize m.vo = vo at *
  generalize s.out.length = L at *
  go_enter Tryd.func43, Tryd.ntmps43
  go_wp2_with fail
  go_region_law ((first
      | (go_simp; refine HA.out.mono ?_; rintro e w' (⟨i, hi, rfl, rfl⟩ | ⟨hi, rfl, rfl⟩); rotate_left; exact ⟨rfl, hS.out hi⟩)
      | (rw [if_pos (by rfl)]; refine wp_append_at _ _ _ 27 rfl B 3 i0 (.int .i64 0) 1 8 undInts hinf hz0 hz1 hz2 rfl (by decide) _ _ _ rfl (hown2 _) ⟨_, 0, none⟩ 1 1 [.int .i64 _] rfl rfl (cell_one_new _ _ _) (by simp [Value.oneCell']) (by simp only [maxLen]; omega) (by omega) (by simp; omega) ?_; intro v' w1 hown' hgrow hat; obtain ⟨A', n', c', rfl⟩ := ownsRow_shape hown'; have k1 := hgrow.cell (hcr2 _) hrn; have k2 := (World.frozen?_of_block (hgrow.block rb (hrl2 _) hrn)).trans (hfr2 _))))
  all_goals (go_wp2_with fail; go_ret; exact HV.out _ hi _ _ hown' hgrow hat)

def afterTry (funs : List FFun) (rec : Anf → PEnv → FSt → FOut) (b : PV) (o : FOut) : FOut := match o with | (.raised v, s') => callF funs rec b v s' | o => o
def tryP (funs : List FFun) (rec : Anf → PEnv → FSt → FOut) (a b : PV) (s : FSt) : FOut := afterTry funs rec b (callF funs rec a (.int 0) s)

set_option maxRecDepth 100000 in
set_option maxHeartbeats 2000000 in
theorem prim_try (hok : BodyOk rb B p inp fuel n) (hg : Good rb B p inp fuel s m W) (hn : s.left ≤ n) {a b : PV} {T U : TypeId} {x y : Value} (ha : RepV rb m W a (.iface T x)) (hb : RepV rb m W b (.iface U y)) {g cap : Nat} (hgl : g < W.heap.size) (hgm : ¬ m.mut rb g) (c0 : W.cell? ⟨g, 0, none⟩ = some (.iface T x)) (c1 : W.cell? ⟨g, 1, none⟩ = some (.iface U y)) :
    Calls Tryd.prog 43 #[.pointer (some ⟨rb, 0, none⟩), .int .i64 16, .slice (some ⟨g, 0, none⟩) 2 cap] W (EvPost rb B p inp fuel m W (tryP p.funs (evF p.funs inp n) a b s)) := by
  have HC := Lib.hid (caught_any hok a s m W _ ha hg hn)
  have hle := callF_le (funs := p.funs) (evF_le p.funs inp n) a (.int 0) s
  have H2 := Lib.hid (fun (v : PV) (s' : FSt) (m' : Mem) (W' : World) (gv : Value) (hs : s'.left ≤ s.left) (hk : Evo rb m m' W W') (hg' : Good rb B p inp fuel s' m' W') (hv : RepV rb m' W' v gv) =>
    (call_any hok b v (hb.evo hk) hv hg' (by omega)).mono fun e V h => EvPost.from_ hk h)
  have HK := Lib.hid (fun (m' : Mem) (W' : World) (hk : Evo rb m m' W W') => (show W'.cell? ⟨g, 1, none⟩ = some (.iface U y) from (cell_of_heap (hk.same g hgl hgm) 1).trans c1))
  unfold tryP
  generalize callF p.funs (evF p.funs inp n) a (.int 0) s = o at *
  clear hok hg hn ha hb
  go_enter Tryd.func43, Tryd.ntmps43
  go_wp2_with fail
  refine HC.out.mono ?_
  intro e V h
  cases h with
  | val hk hg' hv =>
    have HP := Lib.hid (EvPost.val hk hg' hv)
    go_wp2_with fail
    go_ret
    exact HP.out
  | @raised v s' m' _ gv hk hg' hv =>
    have k1 := HK.out _ _ hk
    have HD := Lib.hid (H2.out v s' m' V gv hle.left hk hg' hv)
    clear hk hg' hv hle
    go_wp2_with fail
    refine HD.out.mono ?_
    intro e V' h
    rcases h.ends with ⟨g', rfl, hP⟩ | ⟨ch, rfl, hP⟩
    · go_wp2_with fail
      go_ret
      exact (show EvPost rb B p inp fuel m W (callF p.funs (evF p.funs inp n) b v s') _ _ from hP)
    · exact ⟨rfl, (show EvPost rb B p inp fuel m W (callF p.funs (evF p.funs inp n) b v s') _ _ from hP)⟩
  | stuck hk hg' hth => exact ⟨rfl, EvPost.stuck hk hg' hth⟩
  | cut hk hg' hth => exact ⟨rfl, EvPost.cut hk hg' hth⟩

/-- what a primitive is handed -/
structure ArgsIn (rb : Nat) (m : Mem) (W : World) (l : List PV) (g cap : Nat) (F : Nat → Value) : Prop where
  lt : g < W.heap.size
  still : ¬ m.mut rb g
  cells : ∀ j, j < l.length → W.cell? ⟨g, j, none⟩ = some (F j)
  rep : ∀ j (h : j < l.length), RepV rb m W l[j] (F j)

theorem arithP_eq (funs : List FFun) (inp : List Int) (rec : Anf → PEnv → FSt → FOut) (q : Int) (h9 : q ≤ 9) (a b : PV) (s : FSt) : primF funs inp rec q [a, b] s = arithP q a b s := by
  unfold primF arithP
  simp only []
  rw [if_neg (by omega), if_neg (by omega), if_neg (by omega), if_neg (by omega), if_neg (by omega), if_neg (by omega), if_neg (by omega)]
  cases a <;> cases b <;> rfl

theorem prim_any (hok : BodyOk rb B p inp fuel n) (hg : Good rb B p inp fuel s m W) (hn : s.left ≤ n) (hs : s.out.length + s.left < fuel) {q : Int} (hp1 : 1 ≤ q) (hp2 : q ≤ 16) {l : List PV} {g cap : Nat} {F : Nat → Value} (hl : l.length = if twoF q then 2 else 1) (ha : ArgsIn rb m W l g cap F) :
    Calls Tryd.prog 43 #[.pointer (some ⟨rb, 0, none⟩), .int .i64 q, .slice (some ⟨g, 0, none⟩) l.length cap] W (EvPost rb B p inp fuel m W (primF p.funs inp (evF p.funs inp n) q l s)) := by
  have hst : ∀ e w', e = .panicked (stopV 4) ∧ W = w' → EvPost rb B p inp fuel m W (.stuck, s) e w' := fun e w' h => by
    obtain ⟨rfl, rfl⟩ := h
    exact .stuck (Evo.refl _ _ _) hg (thrown_one _ _)
  have hgr : g ≠ rb := fun e => ha.still (.inl e)
  match l, hl, ha with
  | [], hl, ha => exfalso; simp at hl; split at hl <;> omega
  | [a], hl, ha =>
    have r0 := ha.rep 0 (by simp)
    have k0 := ha.cells 0 (by simp)
    obtain ⟨T, x, hF⟩ := r0.shape
    simp only [List.getElem_cons_zero] at r0
    rw [hF] at r0 k0
    have ht : twoF q = false := by cases h : twoF q <;> simp [h] at hl ⊢
    have hcase : q = 10 ∨ q = 11 ∨ q = 13 ∨ q = 14 ∨ q = 15 := by simp [twoF] at ht; omega
    rcases hcase with rfl | rfl | rfl | rfl | rfl
    · exact prim_ref hg r0 k0
    · cases a with
      | ref i =>
        cases r0
        rename_i b hb
        exact prim_get_ref hg hb k0
      | int k => cases r0; exact (prim_cell_other (.inl ⟨rfl, rfl⟩) _ (.inl rfl) _ k0 _).mono hst
      | blk t l => cases r0; exact (prim_cell_other (.inl ⟨rfl, rfl⟩) _ (.inr (.inl rfl)) _ k0 _).mono hst
      | fn i => cases r0; exact (prim_cell_other (.inl ⟨rfl, rfl⟩) _ (.inr (.inr rfl)) _ k0 _).mono hst
    · refine (prim_print hg hs r0 hgr k0).mono fun e w' h => ?_
      cases a <;> exact h
    · show Calls _ _ _ _ (EvPost rb B p inp fuel m W (readF inp s))
      unfold readF
      split
      · exact prim_read_some hg (by assumption) _
      · exact prim_read_none hg (by omega) _
    · refine (prim_raise hg r0 k0).mono fun e w' h => ?_
      exact h
  | [a, b], hl, ha =>
    have r0 := ha.rep 0 (by simp)
    have k0 := ha.cells 0 (by simp)
    have r1 := ha.rep 1 (by simp)
    have k1 := ha.cells 1 (by simp)
    obtain ⟨T, x, hF⟩ := r0.shape
    obtain ⟨U, y, hF1⟩ := r1.shape
    simp only [List.getElem_cons_zero, List.getElem_cons_succ] at r0 r1
    rw [hF] at r0 k0
    rw [hF1] at r1 k1
    have ht : twoF q = true := by cases h : twoF q <;> simp [h] at hl ⊢
    have hcase : q ≤ 9 ∨ q = 12 ∨ q = 16 := by simp [twoF] at ht; omega
    rcases hcase with h9 | rfl | rfl
    · rw [arithP_eq _ _ _ _ h9]
      exact prim_arith hg hp1 h9 r0 r1 k0 k1
    · cases a with
      | ref i =>
        cases r0
        rename_i b' hb
        exact prim_set_ref hg hb r1 k0 k1
      | int k => cases r0; exact (prim_cell_other (.inr ⟨rfl, rfl⟩) _ (.inl rfl) _ k0 _).mono hst
      | blk t l => cases r0; exact (prim_cell_other (.inr ⟨rfl, rfl⟩) _ (.inr (.inl rfl)) _ k0 _).mono hst
      | fn i => cases r0; exact (prim_cell_other (.inr ⟨rfl, rfl⟩) _ (.inr (.inr rfl)) _ k0 _).mono hst
    · exact prim_try hok hg hn r0 r1 ha.lt ha.still k0 k1
  | _ :: _ :: _ :: _, hl, ha => exfalso; simp at hl; split at hl <;> omega
end
end Go.Proofs.YtllakbiipdcboaaDoor

/-
  anf: within, variable, atom; slices.ContainsFunc over atoms, over ints.
-/
set_option linter.unusedVariables false
set_option linter.unusedSimpArgs false
namespace Go.Proofs.YtllakbiipdcboaaDoor
open Go.RowKit

theorem within_any (n a b : Int) (w : World) :
    Calls Tryd.prog 46 #[.int .i64 n, .int .i64 a, .int .i64 b] w fun e w' => e = .returned (.bool (inB n a b)) ∧ w = w' := by
  by_cases h : a ≤ n
  all_goals
    go_enter Tryd.func46, Tryd.ntmps46
    go_wp2
    go_ret
    exact ⟨ret_bool (by simp [inB]; omega), rfl⟩
theorem variable_any (n : Int) (w : World) :
    Calls Tryd.prog 34 #[.int .i64 n] w fun e w' => e = .returned (.bool (varB n)) ∧ w = w' := by
  go_enter Tryd.func34, Tryd.ntmps34
  go_wp2_with (go_at_call 46; refine (within_any _ _ _ _).mono ?_; rintro e w' ⟨rfl, rfl⟩)
  go_ret
  exact ⟨rfl, rfl⟩
theorem catom_any (v : Bool) (n : Int) (w : World) :
    Calls Tryd.prog 22 #[.agg #[.bool v, .int .i64 n]] w fun e w' => e = .returned (.bool (atomB ⟨v, n⟩)) ∧ Below w.heap.size w w' := by
  have hb : Below w.heap.size w (w.alloc (.cells #[.bool v, .int .i64 n] 24)) := (Below.refl _ _).alloc (Nat.le_refl _) _
  cases v
  · go_enter Tryd.func22, Tryd.ntmps22
    go_wp2_with fail
    go_quiet ((go_at_call 35; exact Calls.quiet_of_same ((wrap_any _ _).mono fun _ _ h => ⟨h.1, h.2.symm⟩)))
    go_wp2_with fail
    go_ret
    exact ⟨ret_bool (by rw [Bool.eq_iff_iff]; simp [atomB]), below_drewN hb _⟩
  · go_enter Tryd.func22, Tryd.ntmps22
    go_wp2_with (go_at_call 34; refine (variable_any _ _).mono ?_; rintro e w' ⟨rfl, rfl⟩)
    go_ret
    exact ⟨ret_bool (by simp [atomB]), hb⟩
/-- '!atom(a)' -/
theorem notatom_any (v : Bool) (n : Int) (w : World) :
    Calls Tryd.prog 39 #[.agg #[.bool v, .int .i64 n]] w fun e w' => e = .returned (.bool (!atomB ⟨v, n⟩)) ∧ Below w.heap.size w w' := by
  have hb : Below w.heap.size w (w.alloc (.cells #[.bool v, .int .i64 n] 24)) := (Below.refl _ _).alloc (Nat.le_refl _) _
  have HC := Lib.hid (catom_any v n (w.alloc (.cells #[.bool v, .int .i64 n] 24)))
  generalize atomB ⟨v, n⟩ = b at *
  go_enter Tryd.func39, Tryd.ntmps39
  go_wp2_with fail
  refine HC.out.mono ?_
  rintro e w' ⟨rfl, hb2⟩
  have HB2 := Lib.hid (hb.trans (hb2.mono hb.size))
  clear hb hb2
  go_wp2_with fail
  go_ret
  exact ⟨rfl, HB2.out⟩
/-- '!variable(k)' -/
theorem notvar_any (n : Int) (w : World) :
    Calls Tryd.prog 51 #[.int .i64 n] w fun e w' => e = .returned (.bool (!varB n)) ∧ w = w' := by
  go_enter Tryd.func51, Tryd.ntmps51
  go_wp2_with (go_at_call 34; refine (variable_any _ _).mono ?_; rintro e w' ⟨rfl, rfl⟩)
  go_ret
  exact ⟨rfl, rfl⟩
theorem any_false_take {α : Type} {f : α → Bool} {l : List α} {k : Nat} (h : ∀ j, j < k → ∀ x, l[j]? = some x → f x = false) (hk : l.length ≤ k) : l.any f = false := by
  rw [Bool.eq_false_iff]
  intro h2
  obtain ⟨x, hx, hf⟩ := List.any_eq_true.1 h2
  obtain ⟨i, hi, rfl⟩ := List.getElem_of_mem hx
  have := h i (by omega) _ (List.getElem?_eq_getElem hi)
  rw [hf] at this; cases this
set_option maxRecDepth 100000 in
set_option maxHeartbeats 1000000 in
theorem index_num {W : World} {ats : List Atm} {Aa : Option Addr} {ca : Nat} (ha : AtomsIn W.heap.size W Aa ats) (hac : ats.length ≤ ca) (P : Atm → Bool) (hP : ∀ a ∈ ats, ∀ V : World, Below W.heap.size W V → Calls Tryd.prog 39 #[.agg #[.bool a.v, .int .i64 a.n]] V fun e w' => e = .returned (.bool (P a)) ∧ Below V.heap.size V w') :
    Calls Tryd.prog 47 #[.slice Aa ats.length ca, .func (.func 39) #[] #[]] W fun e w' => ∃ i : Int, e = .returned (.int .i64 i) ∧ decide (0 ≤ i) = ats.any P ∧ Below W.heap.size W w' := by
  have HA := Lib.hid (fun (j : Nat) (hj : j < ats.length) (V : World) (hV : Below W.heap.size W V) => (show ∃ b o, Aa = some ⟨b, o, none⟩ ∧ V.cell? ⟨b, o + j * 2, none⟩ = some (.bool ats[j].v) ∧ V.cell? ⟨b, o + j * 2 + 1, none⟩ = some (.int .i64 ats[j].n) from by
    rcases ha.2 with rfl | ⟨b, o, rfl, hlt, hc⟩
    · simp at hj
    · have := hc j hj
      simp only [List.getElem?_eq_getElem hj, Option.getD_some] at this
      exact ⟨b, o, rfl, (hV.cell (p := ⟨_, _, none⟩) hlt).trans this.1, (hV.cell (p := ⟨_, _, none⟩) hlt).trans this.2⟩))
  have HP := Lib.hid (fun (j : Nat) (hj : j < ats.length) => hP ats[j] (List.getElem_mem hj))
  have h16 := ha.1
  clear ha hP
  obtain ⟨L, hL⟩ : ∃ L, ats.length = L := ⟨_, rfl⟩
  have HL := Lib.hid hL
  rw [hL] at h16 hac ⊢
  clear hL
  go_enter Tryd.func47, Tryd.ntmps47
  go_wp2_with fail
  go_loopw [8] (fun iv wr => ∃ j : Nat, j ≤ L ∧ iv = .int .i64 (j : Int) ∧ Hid (Below W.heap.size W wr) ∧ Hid (∀ i, i < j → ∀ x, ats[i]? = some x → P x = false)) (fun iv _ => L + 1 - (intOf iv).toNat)
  case atStart => exact ⟨0, by omega, rfl, Lib.hid (Below.refl _ _), Lib.hid (fun i hi => by omega)⟩
  case round =>
    obtain ⟨j, hj, rfl, HW, HN⟩ := hrel
    by_cases hlt : j < L
    · have hja : j < ats.length := by rw [HL.out]; exact hlt
      obtain ⟨b, o, rfl, c0, c1⟩ := HA.out j hja wr HW.out
      have HC := Lib.hid (HP.out j hja wr HW.out)
      have HG := Lib.hid (List.getElem?_eq_getElem hja)
      generalize ats[j] = at_ at *
      obtain ⟨av, an⟩ := at_
      have e1 : (0 : Int) ≤ (j : Int) := by omega
      have e2 : (j : Int) < (L : Int) := by omega
      have e4 : IntKind.i64.wrap ((j : Int) + 1) = (j : Int) + 1 := by rw [IntKind.wrap_i64]; omega
      have e5 : (L : Int) ≤ (ca : Int) := by omega
      cases hp : P ⟨av, an⟩
      · rw [hp] at HC
        have HN2 := Lib.hid (show ∀ i, i < j + 1 → ∀ x, ats[i]? = some x → P x = false from fun i hi x hx => by
          by_cases hij : i = j
          · subst hij
            rw [HG.out] at hx
            cases hx
            exact hp
          · exact HN.out i (by omega) x hx)
        clear hp
        go_wp2_with fail
        refine HC.out.mono ?_
        rintro en w' ⟨rfl, hb⟩
        have HW2 := Lib.hid (HW.out.trans (hb.mono HW.out.size))
        clear hb
        go_wp2_with fail
        go_roundw
        case rel => exact ⟨j + 1, by omega, by go_num, HW2, HN2⟩
        case measure => simp [intOf]; omega
      · rw [hp] at HC
        have HT := Lib.hid (show ats.any P = true from List.any_eq_true.2 ⟨_, List.mem_of_getElem? HG.out, hp⟩)
        clear hp
        go_wp2_with fail
        refine HC.out.mono ?_
        rintro en w' ⟨rfl, hb⟩
        have HW2 := Lib.hid (HW.out.trans (hb.mono HW.out.size))
        clear hb
        go_wp2_with fail
        go_ret
        exact ⟨(j : Int), rfl, by rw [HT.out]; simp, HW2.out⟩
    · have e2 : ¬ (j : Int) < (L : Int) := by omega
      have HF := Lib.hid (show ats.any P = false from any_false_take HN.out (by rw [HL.out]; omega))
      go_wp2_with fail
      go_ret
      exact ⟨-1, rfl, by rw [HF.out]; decide, HW.out⟩
theorem contains_num {W : World} {ats : List Atm} {Aa : Option Addr} {ca : Nat} (ha : AtomsIn W.heap.size W Aa ats) (hac : ats.length ≤ ca) (P : Atm → Bool) (hP : ∀ a ∈ ats, ∀ V : World, Below W.heap.size W V → Calls Tryd.prog 39 #[.agg #[.bool a.v, .int .i64 a.n]] V fun e w' => e = .returned (.bool (P a)) ∧ Below V.heap.size V w') :
    Calls Tryd.prog 38 #[.slice Aa ats.length ca, .func (.func 39) #[] #[]] W fun e w' => e = .returned (.bool (ats.any P)) ∧ Below W.heap.size W w' := by
  have HC := Lib.hid (index_num ha hac P hP)
  clear ha hP
  go_enter Tryd.func38, Tryd.ntmps38
  go_wp2_with fail
  refine HC.out.mono ?_
  rintro en w' ⟨i, rfl, hi, hb⟩
  have HI := Lib.hid hi
  have HB := Lib.hid hb
  clear hi hb
  go_wp2_with fail
  go_ret
  exact ⟨ret_bool HI.out, HB.out⟩
set_option maxRecDepth 100000 in
set_option maxHeartbeats 1000000 in
theorem index_ints {W : World} {ks : List Int} {Ak : Option Addr} {ck : Nat} (hk : IntsIn W.heap.size W Ak ks) (hkc : ks.length ≤ ck) :
    Calls Tryd.prog 58 #[.slice Ak ks.length ck, .func (.func 51) #[] #[]] W fun e w' => ∃ i : Int, e = .returned (.int .i64 i) ∧ decide (0 ≤ i) = ks.any (fun k => !varB k) ∧ W = w' := by
  have HA := Lib.hid (fun (j : Nat) (hj : j < ks.length) => (show ∃ b o, Ak = some ⟨b, o, none⟩ ∧ W.cell? ⟨b, o + j, none⟩ = some (.int .i64 ks[j]) from by
    obtain ⟨b, o, h1, h2, h3⟩ := hk.at_ (by omega)
    exact ⟨b, o, h1, by rw [h3 j hj, nth_eq _ hj]⟩))
  have h8 := hk.1
  clear hk
  obtain ⟨L, hL⟩ : ∃ L, ks.length = L := ⟨_, rfl⟩
  have HL := Lib.hid hL
  rw [hL] at h8 hkc ⊢
  clear hL
  go_enter Tryd.func58, Tryd.ntmps58
  go_wp2_with fail
  go_loopw [8] (fun iv wr => ∃ j : Nat, j ≤ L ∧ iv = .int .i64 (j : Int) ∧ W = wr ∧ Hid (∀ i, i < j → ∀ x, ks[i]? = some x → (!varB x) = false)) (fun iv _ => L + 1 - (intOf iv).toNat)
  case atStart => exact ⟨0, by omega, rfl, rfl, Lib.hid (fun i hi => by omega)⟩
  case round =>
    obtain ⟨j, hj, rfl, rfl, HN⟩ := hrel
    by_cases hlt : j < L
    · have hja : j < ks.length := by rw [HL.out]; exact hlt
      obtain ⟨b, o, rfl, c0⟩ := HA.out j hja
      have HG := Lib.hid (List.getElem?_eq_getElem hja)
      generalize ks[j] = an at *
      have e1 : (0 : Int) ≤ (j : Int) := by omega
      have e2 : (j : Int) < (L : Int) := by omega
      have e4 : IntKind.i64.wrap ((j : Int) + 1) = (j : Int) + 1 := by rw [IntKind.wrap_i64]; omega
      have e5 : (L : Int) ≤ (ck : Int) := by omega
      have HC := Lib.hid (notvar_any an W)
      cases hp : (!varB an)
      · rw [hp] at HC
        have HN2 := Lib.hid (show ∀ i, i < j + 1 → ∀ x, ks[i]? = some x → (!varB x) = false from fun i hi x hx => by
          by_cases hij : i = j
          · subst hij
            rw [HG.out] at hx
            cases hx
            exact hp
          · exact HN.out i (by omega) x hx)
        clear hp
        go_wp2_with fail
        refine HC.out.mono ?_
        rintro en w' ⟨rfl, rfl⟩
        go_wp2_with fail
        go_roundw
        case rel => exact ⟨j + 1, by omega, by go_num, (by first | rfl | trivial), HN2⟩
        case measure => simp [intOf]; omega
      · rw [hp] at HC
        have HT := Lib.hid (show ks.any (fun k => !varB k) = true from List.any_eq_true.2 ⟨_, List.mem_of_getElem? HG.out, hp⟩)
        clear hp
        go_wp2_with fail
        refine HC.out.mono ?_
        rintro en w' ⟨rfl, rfl⟩
        go_wp2_with fail
        go_ret
        exact ⟨(j : Int), rfl, by rw [HT.out]; simp, rfl⟩
    · have e2 : ¬ (j : Int) < (L : Int) := by omega
      have HF := Lib.hid (show ks.any (fun k => !varB k) = false from by
        rw [List.any_eq_false]
        intro x hx
        obtain ⟨i, hi, rfl⟩ := List.getElem_of_mem hx
        have := HN.out i (by rw [← HL.out] at e2; omega) _ (List.getElem?_eq_getElem hi)
        simpa using this)
      go_wp2_with fail
      go_ret
      exact ⟨-1, rfl, by rw [HF.out]; decide, rfl⟩
theorem contains_ints {W : World} {ks : List Int} {Ak : Option Addr} {ck : Nat} (hk : IntsIn W.heap.size W Ak ks) (hkc : ks.length ≤ ck) :
    Calls Tryd.prog 50 #[.slice Ak ks.length ck, .func (.func 51) #[] #[]] W fun e w' => e = .returned (.bool (ks.any fun k => !varB k)) ∧ W = w' := by
  have HC := Lib.hid (index_ints hk hkc)
  clear hk
  go_enter Tryd.func50, Tryd.ntmps50
  go_wp2_with fail
  refine HC.out.mono ?_
  rintro en w' ⟨i, rfl, hi, rfl⟩
  have HI := Lib.hid hi
  clear hi
  go_wp2_with fail
  go_ret
  exact ⟨ret_bool HI.out, rfl⟩
end Go.Proofs.YtllakbiipdcboaaDoor

/-
  anf: number, counts.
-/
set_option linter.unusedVariables false
set_option linter.unusedSimpArgs false
namespace Go.Proofs.YtllakbiipdcboaaDoor
open Go.RowKit

/-- a right side's copy in memory -/
structure RhsAt (w W0 : World) (b : Nat) (k n : Int) (Aa Ak Al : Option Addr) (na ca nk ck nb cb : Nat) : Prop where
  c0 : W0.cell? ⟨b, 0, none⟩ = some (.int .i64 k)
  c1 : W0.cell? ⟨b, 1, none⟩ = some (.int .i64 n)
  c2 : W0.cell? ⟨b, 2, none⟩ = some (.slice Aa na ca)
  c3 : W0.cell? ⟨b, 3, none⟩ = some (.slice Ak nk ck)
  c4 : W0.cell? ⟨b, 4, none⟩ = some (.slice Al nb cb)
  lt : b < W0.heap.size
theorem RhsAt.new (w : World) (k n : Int) (Aa Ak Al : Option Addr) (na ca nk ck nb cb : Nat) : RhsAt w (w.alloc (.cells #[.int .i64 k, .int .i64 n, .slice Aa na ca, .slice Ak nk ck, .slice Al nb cb] 43)) w.heap.size k n Aa Ak Al na ca nk ck nb cb :=
  ⟨by rw [World.cell?_alloc_at _ _ _ _ rfl]; rfl, by rw [World.cell?_alloc_at _ _ _ _ rfl]; rfl, by rw [World.cell?_alloc_at _ _ _ _ rfl]; rfl, by rw [World.cell?_alloc_at _ _ _ _ rfl]; rfl, by rw [World.cell?_alloc_at _ _ _ _ rfl]; rfl, by simp⟩
theorem RhsAt.behind {w W0 V : World} {b : Nat} {k n : Int} {Aa Ak Al : Option Addr} {na ca nk ck nb cb : Nat} (h : RhsAt w W0 b k n Aa Ak Al na ca nk ck nb cb) (hV : Below W0.heap.size W0 V) : RhsAt w V b k n Aa Ak Al na ca nk ck nb cb :=
  ⟨(hV.cell (p := ⟨_, _, none⟩) h.lt).trans h.c0, (hV.cell (p := ⟨_, _, none⟩) h.lt).trans h.c1, (hV.cell (p := ⟨_, _, none⟩) h.lt).trans h.c2, (hV.cell (p := ⟨_, _, none⟩) h.lt).trans h.c3, (hV.cell (p := ⟨_, _, none⟩) h.lt).trans h.c4, Nat.lt_of_lt_of_le h.lt hV.size⟩

section
variable (n : Int) (Aa Ak Al : Option Addr) (na ca nk ck nb cb : Nat) (w : World)
set_option maxRecDepth 100000 in
set_option maxHeartbeats 2000000 in
theorem num_fn_true (hv : varB n = true) : Calls Tryd.prog 36 #[.agg #[.int .i64 5, .int .i64 n, .slice Aa na ca, .slice Ak nk ck, .slice Al nb cb]] w fun e w' => e = .returned (.int .i64 (numA 5 n)) ∧ Below w.heap.size w w' := by
  obtain ⟨W0, hW0⟩ : ∃ W0, w.alloc (.cells #[.int .i64 5, .int .i64 n, .slice Aa na ca, .slice Ak nk ck, .slice Al nb cb] 43) = W0 := ⟨_, rfl⟩
  have hb0 : Below w.heap.size w W0 := by rw [← hW0]; exact (Below.refl _ _).alloc (Nat.le_refl _) _
  have hR : RhsAt w W0 w.heap.size 5 n Aa Ak Al na ca nk ck nb cb := by rw [← hW0]; exact RhsAt.new _ _ _ _ _ _ _ _ _ _ _ _
  obtain ⟨c0, c1, c2, c3, c4, cl⟩ := hR
  have HB := Lib.hid hb0
  have HV := Lib.hid (fun (V : World) => (show Calls Tryd.prog 34 #[.int .i64 n] V fun e w' => e = .returned (.bool true) ∧ V = w' from hv ▸ variable_any n V))
  have HN := Lib.hid (show numA 5 n = 0 from by simp [numA, hv])
  clear hb0 hv
  go_enter Tryd.func36, Tryd.ntmps36
  go_wp2_with (go_at_call 34; refine (HV.out _).mono ?_; rintro en w' ⟨rfl, rfl⟩)
  go_ret
  exact ⟨ret_int HN.out.symm, HB.out⟩
set_option maxRecDepth 100000 in
set_option maxHeartbeats 2000000 in
theorem num_fn_false (hv : varB n = false) : Calls Tryd.prog 36 #[.agg #[.int .i64 5, .int .i64 n, .slice Aa na ca, .slice Ak nk ck, .slice Al nb cb]] w fun e w' => e = .returned (.int .i64 (numA 5 n)) ∧ Below w.heap.size w w' := by
  obtain ⟨W0, hW0⟩ : ∃ W0, w.alloc (.cells #[.int .i64 5, .int .i64 n, .slice Aa na ca, .slice Ak nk ck, .slice Al nb cb] 43) = W0 := ⟨_, rfl⟩
  have hb0 : Below w.heap.size w W0 := by rw [← hW0]; exact (Below.refl _ _).alloc (Nat.le_refl _) _
  have hR : RhsAt w W0 w.heap.size 5 n Aa Ak Al na ca nk ck nb cb := by rw [← hW0]; exact RhsAt.new _ _ _ _ _ _ _ _ _ _ _ _
  obtain ⟨c0, c1, c2, c3, c4, cl⟩ := hR
  have HB := Lib.hid hb0
  have HV := Lib.hid (fun (V : World) => (show Calls Tryd.prog 34 #[.int .i64 n] V fun e w' => e = .returned (.bool false) ∧ V = w' from hv ▸ variable_any n V))
  have HN := Lib.hid (show numA 5 n = 2 from by simp [numA, hv])
  clear hb0 hv
  go_enter Tryd.func36, Tryd.ntmps36
  go_wp2_with (go_at_call 34; refine (HV.out _).mono ?_; rintro en w' ⟨rfl, rfl⟩)
  go_ret
  exact ⟨ret_int HN.out.symm, HB.out⟩
set_option maxRecDepth 100000 in
set_option maxHeartbeats 2000000 in
theorem num_block_true (hv : inB n 0 1023 = true) : Calls Tryd.prog 36 #[.agg #[.int .i64 3, .int .i64 n, .slice Aa na ca, .slice Ak nk ck, .slice Al nb cb]] w fun e w' => e = .returned (.int .i64 (numA 3 n)) ∧ Below w.heap.size w w' := by
  obtain ⟨W0, hW0⟩ : ∃ W0, w.alloc (.cells #[.int .i64 3, .int .i64 n, .slice Aa na ca, .slice Ak nk ck, .slice Al nb cb] 43) = W0 := ⟨_, rfl⟩
  have hb0 : Below w.heap.size w W0 := by rw [← hW0]; exact (Below.refl _ _).alloc (Nat.le_refl _) _
  have hR : RhsAt w W0 w.heap.size 3 n Aa Ak Al na ca nk ck nb cb := by rw [← hW0]; exact RhsAt.new _ _ _ _ _ _ _ _ _ _ _ _
  obtain ⟨c0, c1, c2, c3, c4, cl⟩ := hR
  have HB := Lib.hid hb0
  have HV := Lib.hid (fun (V : World) => (show Calls Tryd.prog 46 #[.int .i64 n, .int .i64 0, .int .i64 1023] V fun e w' => e = .returned (.bool true) ∧ V = w' from hv ▸ within_any _ _ _ V))
  have HN := Lib.hid (show numA 3 n = 0 from by simp [numA, hv])
  clear hb0 hv
  go_enter Tryd.func36, Tryd.ntmps36
  go_wp2_with (go_at_call 46; refine (HV.out _).mono ?_; rintro en w' ⟨rfl, rfl⟩)
  go_ret
  exact ⟨ret_int HN.out.symm, HB.out⟩
set_option maxRecDepth 100000 in
set_option maxHeartbeats 2000000 in
theorem num_block_false (hv : inB n 0 1023 = false) : Calls Tryd.prog 36 #[.agg #[.int .i64 3, .int .i64 n, .slice Aa na ca, .slice Ak nk ck, .slice Al nb cb]] w fun e w' => e = .returned (.int .i64 (numA 3 n)) ∧ Below w.heap.size w w' := by
  obtain ⟨W0, hW0⟩ : ∃ W0, w.alloc (.cells #[.int .i64 3, .int .i64 n, .slice Aa na ca, .slice Ak nk ck, .slice Al nb cb] 43) = W0 := ⟨_, rfl⟩
  have hb0 : Below w.heap.size w W0 := by rw [← hW0]; exact (Below.refl _ _).alloc (Nat.le_refl _) _
  have hR : RhsAt w W0 w.heap.size 3 n Aa Ak Al na ca nk ck nb cb := by rw [← hW0]; exact RhsAt.new _ _ _ _ _ _ _ _ _ _ _ _
  obtain ⟨c0, c1, c2, c3, c4, cl⟩ := hR
  have HB := Lib.hid hb0
  have HV := Lib.hid (fun (V : World) => (show Calls Tryd.prog 46 #[.int .i64 n, .int .i64 0, .int .i64 1023] V fun e w' => e = .returned (.bool false) ∧ V = w' from hv ▸ within_any _ _ _ V))
  have HN := Lib.hid (show numA 3 n = 2 from by simp [numA, hv])
  clear hb0 hv
  go_enter Tryd.func36, Tryd.ntmps36
  go_wp2_with (go_at_call 46; refine (HV.out _).mono ?_; rintro en w' ⟨rfl, rfl⟩)
  go_ret
  exact ⟨ret_int HN.out.symm, HB.out⟩
set_option maxRecDepth 100000 in
set_option maxHeartbeats 2000000 in
theorem num_field_true (hv : inB n 0 7 = true) : Calls Tryd.prog 36 #[.agg #[.int .i64 4, .int .i64 n, .slice Aa na ca, .slice Ak nk ck, .slice Al nb cb]] w fun e w' => e = .returned (.int .i64 (numA 4 n)) ∧ Below w.heap.size w w' := by
  obtain ⟨W0, hW0⟩ : ∃ W0, w.alloc (.cells #[.int .i64 4, .int .i64 n, .slice Aa na ca, .slice Ak nk ck, .slice Al nb cb] 43) = W0 := ⟨_, rfl⟩
  have hb0 : Below w.heap.size w W0 := by rw [← hW0]; exact (Below.refl _ _).alloc (Nat.le_refl _) _
  have hR : RhsAt w W0 w.heap.size 4 n Aa Ak Al na ca nk ck nb cb := by rw [← hW0]; exact RhsAt.new _ _ _ _ _ _ _ _ _ _ _ _
  obtain ⟨c0, c1, c2, c3, c4, cl⟩ := hR
  have HB := Lib.hid hb0
  have HV := Lib.hid (fun (V : World) => (show Calls Tryd.prog 46 #[.int .i64 n, .int .i64 0, .int .i64 7] V fun e w' => e = .returned (.bool true) ∧ V = w' from hv ▸ within_any _ _ _ V))
  have HN := Lib.hid (show numA 4 n = 0 from by simp [numA, hv])
  clear hb0 hv
  go_enter Tryd.func36, Tryd.ntmps36
  go_wp2_with (go_at_call 46; refine (HV.out _).mono ?_; rintro en w' ⟨rfl, rfl⟩)
  go_ret
  exact ⟨ret_int HN.out.symm, HB.out⟩
set_option maxRecDepth 100000 in
set_option maxHeartbeats 2000000 in
theorem num_field_false (hv : inB n 0 7 = false) : Calls Tryd.prog 36 #[.agg #[.int .i64 4, .int .i64 n, .slice Aa na ca, .slice Ak nk ck, .slice Al nb cb]] w fun e w' => e = .returned (.int .i64 (numA 4 n)) ∧ Below w.heap.size w w' := by
  obtain ⟨W0, hW0⟩ : ∃ W0, w.alloc (.cells #[.int .i64 4, .int .i64 n, .slice Aa na ca, .slice Ak nk ck, .slice Al nb cb] 43) = W0 := ⟨_, rfl⟩
  have hb0 : Below w.heap.size w W0 := by rw [← hW0]; exact (Below.refl _ _).alloc (Nat.le_refl _) _
  have hR : RhsAt w W0 w.heap.size 4 n Aa Ak Al na ca nk ck nb cb := by rw [← hW0]; exact RhsAt.new _ _ _ _ _ _ _ _ _ _ _ _
  obtain ⟨c0, c1, c2, c3, c4, cl⟩ := hR
  have HB := Lib.hid hb0
  have HV := Lib.hid (fun (V : World) => (show Calls Tryd.prog 46 #[.int .i64 n, .int .i64 0, .int .i64 7] V fun e w' => e = .returned (.bool false) ∧ V = w' from hv ▸ within_any _ _ _ V))
  have HN := Lib.hid (show numA 4 n = 2 from by simp [numA, hv])
  clear hb0 hv
  go_enter Tryd.func36, Tryd.ntmps36
  go_wp2_with (go_at_call 46; refine (HV.out _).mono ?_; rintro en w' ⟨rfl, rfl⟩)
  go_ret
  exact ⟨ret_int HN.out.symm, HB.out⟩
set_option maxRecDepth 100000 in
set_option maxHeartbeats 2000000 in
theorem num_prim_true (hv : inB n 1 16 = true) : Calls Tryd.prog 36 #[.agg #[.int .i64 2, .int .i64 n, .slice Aa na ca, .slice Ak nk ck, .slice Al nb cb]] w fun e w' => e = .returned (.int .i64 (numA 2 n)) ∧ Below w.heap.size w w' := by
  obtain ⟨W0, hW0⟩ : ∃ W0, w.alloc (.cells #[.int .i64 2, .int .i64 n, .slice Aa na ca, .slice Ak nk ck, .slice Al nb cb] 43) = W0 := ⟨_, rfl⟩
  have hb0 : Below w.heap.size w W0 := by rw [← hW0]; exact (Below.refl _ _).alloc (Nat.le_refl _) _
  have hR : RhsAt w W0 w.heap.size 2 n Aa Ak Al na ca nk ck nb cb := by rw [← hW0]; exact RhsAt.new _ _ _ _ _ _ _ _ _ _ _ _
  obtain ⟨c0, c1, c2, c3, c4, cl⟩ := hR
  have HB := Lib.hid hb0
  have HV := Lib.hid (fun (V : World) => (show Calls Tryd.prog 46 #[.int .i64 n, .int .i64 1, .int .i64 16] V fun e w' => e = .returned (.bool true) ∧ V = w' from hv ▸ within_any _ _ _ V))
  have HN := Lib.hid (show numA 2 n = 0 from by simp [numA, hv])
  clear hb0 hv
  go_enter Tryd.func36, Tryd.ntmps36
  go_wp2_with (go_at_call 46; refine (HV.out _).mono ?_; rintro en w' ⟨rfl, rfl⟩)
  go_ret
  exact ⟨ret_int HN.out.symm, HB.out⟩
set_option maxRecDepth 100000 in
set_option maxHeartbeats 2000000 in
theorem num_prim_false (hv : inB n 1 16 = false) : Calls Tryd.prog 36 #[.agg #[.int .i64 2, .int .i64 n, .slice Aa na ca, .slice Ak nk ck, .slice Al nb cb]] w fun e w' => e = .returned (.int .i64 (numA 2 n)) ∧ Below w.heap.size w w' := by
  obtain ⟨W0, hW0⟩ : ∃ W0, w.alloc (.cells #[.int .i64 2, .int .i64 n, .slice Aa na ca, .slice Ak nk ck, .slice Al nb cb] 43) = W0 := ⟨_, rfl⟩
  have hb0 : Below w.heap.size w W0 := by rw [← hW0]; exact (Below.refl _ _).alloc (Nat.le_refl _) _
  have hR : RhsAt w W0 w.heap.size 2 n Aa Ak Al na ca nk ck nb cb := by rw [← hW0]; exact RhsAt.new _ _ _ _ _ _ _ _ _ _ _ _
  obtain ⟨c0, c1, c2, c3, c4, cl⟩ := hR
  have HB := Lib.hid hb0
  have HV := Lib.hid (fun (V : World) => (show Calls Tryd.prog 46 #[.int .i64 n, .int .i64 1, .int .i64 16] V fun e w' => e = .returned (.bool false) ∧ V = w' from hv ▸ within_any _ _ _ V))
  have HN := Lib.hid (show numA 2 n = 28 from by simp [numA, hv])
  clear hb0 hv
  go_enter Tryd.func36, Tryd.ntmps36
  go_wp2_with (go_at_call 46; refine (HV.out _).mono ?_; rintro en w' ⟨rfl, rfl⟩)
  go_ret
  exact ⟨ret_int HN.out.symm, HB.out⟩
set_option maxRecDepth 100000 in
set_option maxHeartbeats 2000000 in
theorem num_other (k : Int) (h2 : k ≠ 2) (h3 : k ≠ 3) (h4 : k ≠ 4) (h5 : k ≠ 5) : Calls Tryd.prog 36 #[.agg #[.int .i64 k, .int .i64 n, .slice Aa na ca, .slice Ak nk ck, .slice Al nb cb]] w fun e w' => e = .returned (.int .i64 (numA k n)) ∧ Below w.heap.size w w' := by
  obtain ⟨W0, hW0⟩ : ∃ W0, w.alloc (.cells #[.int .i64 k, .int .i64 n, .slice Aa na ca, .slice Ak nk ck, .slice Al nb cb] 43) = W0 := ⟨_, rfl⟩
  have hb0 : Below w.heap.size w W0 := by rw [← hW0]; exact (Below.refl _ _).alloc (Nat.le_refl _) _
  have hR : RhsAt w W0 w.heap.size k n Aa Ak Al na ca nk ck nb cb := by rw [← hW0]; exact RhsAt.new _ _ _ _ _ _ _ _ _ _ _ _
  obtain ⟨c0, c1, c2, c3, c4, cl⟩ := hR
  have HB := Lib.hid hb0
  have f2 : (k == 2) = false := by simpa using h2
  have f3 : (k == 3) = false := by simpa using h3
  have f4 : (k == 4) = false := by simpa using h4
  have f5 : (k == 5) = false := by simpa using h5
  cases hn : (n == 0)
  · have HN := Lib.hid (show numA k n = 2 from by have h0 : ¬ n = 0 := (by simpa using hn); simp [numA, h2, h3, h4, h5, h0])
    clear h2 h3 h4 h5 hb0
    go_enter Tryd.func36, Tryd.ntmps36
    go_wp2_with fail
    go_ret
    exact ⟨ret_int HN.out.symm, HB.out⟩
  · have HN := Lib.hid (show numA k n = 0 from by have h0 : n = 0 := (by simpa using hn); simp [numA, h2, h3, h4, h5, h0])
    clear h2 h3 h4 h5 hb0
    go_enter Tryd.func36, Tryd.ntmps36
    go_wp2_with fail
    go_ret
    exact ⟨ret_int HN.out.symm, HB.out⟩
theorem number_any' (k : Int) : Calls Tryd.prog 36 #[.agg #[.int .i64 k, .int .i64 n, .slice Aa na ca, .slice Ak nk ck, .slice Al nb cb]] w fun e w' => e = .returned (.int .i64 (numA k n)) ∧ Below w.heap.size w w' := by
  by_cases h2 : k = 2
  · subst h2
    cases hv : inB n 1 16
    · exact num_prim_false n Aa Ak Al na ca nk ck nb cb w hv
    · exact num_prim_true n Aa Ak Al na ca nk ck nb cb w hv
  by_cases h3 : k = 3
  · subst h3
    cases hv : inB n 0 1023
    · exact num_block_false n Aa Ak Al na ca nk ck nb cb w hv
    · exact num_block_true n Aa Ak Al na ca nk ck nb cb w hv
  by_cases h4 : k = 4
  · subst h4
    cases hv : inB n 0 7
    · exact num_field_false n Aa Ak Al na ca nk ck nb cb w hv
    · exact num_field_true n Aa Ak Al na ca nk ck nb cb w hv
  by_cases h5 : k = 5
  · subst h5
    cases hv : varB n
    · exact num_fn_false n Aa Ak Al na ca nk ck nb cb w hv
    · exact num_fn_true n Aa Ak Al na ca nk ck nb cb w hv
  exact num_other n Aa Ak Al na ca nk ck nb cb w k h2 h3 h4 h5
end
end Go.Proofs.YtllakbiipdcboaaDoor
