/-
 3 texts of this seat in one: H11 H12 H13.
-/
import Derived.Test.YtnobggabjpcbfaaGreatQI10
set_option maxRecDepth 100000
set_option maxHeartbeats 16000000
set_option linter.unusedVariables false
set_option linter.unusedSimpArgs false
namespace Go.Proofs.YtnobggabjpcbfaaGreat
open Go.RowKit
theorem infoInt : (Tryz.prog.info? 3).map (fun i => (i.zero, i.size, i.bytes)) = some (some (.int .i64 0), 1, 8) := by kernel_rfl
theorem undInts : Tryz.prog.underlying 30 = some (.slice 3) := by kernel_rfl
section
variable {rb B : Nat} {p : FlatP} {inp : List Int} {fuel n : Nat} {s : FSt} {m : Mem} {W : World}
def arithP (p : Int) (a b : PV) (s : FSt) : FOut :=
 match numOf a, numOf b with
 | some x, some y => (match doP p x y with | some n => (.val (.int n), s) | none => (.raised (.int 0), s))
 | _, _ => (.stuck, s)
theorem prim_arith (hg : Good rb B p inp fuel s m W) {q : Int} (hp1 : 1 ≤ q) (hp9 : q ≤ 9) {a b : PV} {T U : TypeId} {x y : Value} (ha : RepV rb m W a (.iface T x)) (hb : RepV rb m W b (.iface U y)) {g cap : Nat} (c0 : W.cell? ⟨g, 0, none⟩ = some (.iface T x)) (c1 : W.cell? ⟨g, 1, none⟩ = some (.iface U y)) :
 Calls Tryz.prog 85 #[.pointer (some ⟨rb, 0, none⟩), .int .i64 q, .slice (some ⟨g, 0, none⟩) 2 cap] W (EvPost rb B p inp fuel m W (arithP q a b s)) := by
 have e10 : (q == 10) = false := by simp; omega
 have e11 : (q == 11) = false := by simp; omega
 have e12 : (q == 12) = false := by simp; omega
 have e13 : (q == 13) = false := by simp; omega
 have e14 : (q == 14) = false := by simp; omega
 have e15 : (q == 15) = false := by simp; omega
 have e16 : (q == 16) = false := by simp; omega
 have hd : Evo rb m m W W.drew := (Evo.refl _ _ _).drew
 have HA := Lib.hid (cnumber_any (ha.evo hd))
 have HB := Lib.hid (cnumber_any (hb.evo hd))
 have HS := Lib.hid (fun (h : numOf a = none ∨ numOf b = none) => (show EvPost rb B p inp fuel m W (arithP q a b s) (.panicked (stopV 4)) W.drew from by
  have : arithP q a b s = (.stuck, s) := by
   unfold arithP
   rcases h with h | h
   · rw [h]
   · rw [h]; cases numOf a <;> rfl
  rw [this]
  exact EvPost.stuck hd (hg.below (Below.refl _ _).drew) (thrown_one _ _)))
 have HV := Lib.hid (fun (i j k : Int) (hi : numOf a = some i) (hj : numOf b = some j) (w' : World) (hw : Below W.heap.size W w') (hk : doP q i j = some k) => (show EvPost rb B p inp fuel m W (arithP q a b s) (.returned (.iface 115 (.int .i64 k))) w' from by
  have : arithP q a b s = (.val (.int k), s) := by unfold arithP; rw [hi, hj]; simp [hk]
  rw [this]
  exact EvPost.val (Evo.below hw) (hg.below hw) (.int k)))
 have HR := Lib.hid (fun (i j : Int) (hi : numOf a = some i) (hj : numOf b = some j) (w' : World) (hw : Below W.heap.size W w') (hk : doP q i j = none) => (show EvPost rb B p inp fuel m W (arithP q a b s) (.panicked (raisedV (.iface 115 (.int .i64 0)))) w' from by
  have : arithP q a b s = (.raised (.int 0), s) := by unfold arithP; rw [hi, hj]; simp [hk]
  rw [this]
  exact EvPost.raised (Evo.below hw) (hg.below hw) (.int 0) ⟨0, rfl⟩ (thrown_one _ _)))
 generalize arithP q a b s = o at *
 have HD := Lib.hid (fun (i j : Int) => do_any q i j hp1 hp9 W.drew)
 clear hg ha hb hd hp1 hp9
 go_enter Tryz.func85, Tryz.ntmps85
 go_wp2_with fail
 go_region_held2 (fun w' => w'.cell? ⟨g, 0, none⟩ = some (.iface T x) ∧ w'.cell? ⟨g, 1, none⟩ = some (.iface U y)) (exact ⟨c0, c1⟩)
  ((first
   | (go_at_call 94; (with_reducible refine HA.out.mono ?_); rintro e w' (⟨i, hi, rfl, rfl⟩ | ⟨hi, rfl, rfl⟩); rotate_left; exact ⟨rfl, HS.out (.inl hi)⟩)
   | (go_at_call 94; (with_reducible refine HB.out.mono ?_); rintro e w' (⟨j, hj, rfl, rfl⟩ | ⟨hj, rfl, rfl⟩); rotate_left; exact ⟨rfl, HS.out (.inr hj)⟩)))
 go_wp2_with fail
 refine (HD.out i j).mono ?_
 rintro e w' (⟨k, hk, rfl, hw⟩ | ⟨hk, rfl, hw⟩)
 · go_wp2_with fail
   go_ret
   exact HV.out i j k hi hj _ ⟨hw.os, hw.tape, hw.output, hw.size, hw.block⟩ hk
 · go_wp2_with fail
   exact ⟨rfl, HR.out i j hi hj _ ⟨hw.os, hw.tape, hw.output, hw.size, hw.block⟩ hk⟩
theorem ownsRow_shape {w : World} {base : Nat} {e : TypeId} {size : Nat} {v : Value} {n : Nat} {xs : List Value} (h : w.ownsRow base e size v n xs) : ∃ A k c, v = .slice A k c := by
 rcases h.2 with ⟨rfl, _⟩ | ⟨g, cap, cur, rfl, _⟩ <;> exact ⟨_, _, _, rfl⟩
theorem prim_print (hg : Good rb B p inp fuel s m W) (hs : s.out.length + s.left < fuel) {a : PV} {T : TypeId} {x : Value} (ha : RepV rb m W a (.iface T x)) {g cap : Nat} (hgr : g ≠ rb) (c0 : W.cell? ⟨g, 0, none⟩ = some (.iface T x)) :
 Calls Tryz.prog 85 #[.pointer (some ⟨rb, 0, none⟩), .int .i64 13, .slice (some ⟨g, 0, none⟩) 1 cap] W (EvPost rb B p inp fuel m W (match numOf a with | some k => (.val (.int 0), { s with out := s.out ++ [k] }) | none => (.stuck, s))) := by
 have hd : Evo rb m m W W.drew := (Evo.refl _ _ _).drew
 have HA := Lib.hid (cnumber_any (ha.evo hd))
 obtain ⟨i0, hinf, hz0, hz1, hz2⟩ := info_parts infoInt
 have hS := Lib.hid (fun (h : numOf a = none) => (show EvPost rb B p inp fuel m W (match numOf a with | some k => (.val (.int 0), { s with out := s.out ++ [k] }) | none => (.stuck, s)) (.panicked (stopV 4)) W.drew from by
  rw [h]
  exact EvPost.stuck hd (hg.below (Below.refl _ _).drew) (thrown_one _ _)))
 have HV := Lib.hid (fun (k : Int) (hk : numOf a = some k) (w1 : World) (v' : Value) (h1 : w1.ownsRow B 3 1 v' (s.out.length + 1) (s.out.map (Value.int .i64) ++ [.int .i64 k])) (h2 : (W.drew.alloc (.cells #[.int .i64 k] 3)).grownBy w1 m.vo.ownBlock)
  (hat : v'.ownBlock = m.vo.ownBlock ∨ v'.ownBlock = some (W.drew.alloc (.cells #[.int .i64 k] 3)).heap.size) => (show EvPost rb B p inp fuel m W (match numOf a with | some k => (.val (.int 0), { s with out := s.out ++ [k] }) | none => (.stuck, s)) (.returned (.iface 115 (.int .i64 0))) (w1.setCell ⟨rb, 8, none⟩ v') from by
  obtain ⟨q1, q2⟩ := hg.print hs ((Below.refl _ W).drew.alloc (Nat.le_refl _) (.cells #[.int .i64 k] 3)) h1 h2 hat
  rw [hk]
  exact EvPost.val q2 q1 (.int 0)))
 generalize (match numOf a with | some k => ((.val (.int 0), { s with out := s.out ++ [k] }) : FOut) | none => (.stuck, s)) = o at *
 obtain ⟨f0, f1, f2, f3, Ai, ci, hr, hfl, hii, hci⟩ := hg.run
 have cr : W.cell? ⟨rb, 8, none⟩ = some m.vo := by simp [World.cell?, hr]
 have fr : W.frozen? ⟨rb, 8, none⟩ = false := by simp [World.frozen?, hr]
 have hrbl := World.block_lt_of_cell? _ _ cr
 have hown := hg.out
 have hon := hg.rbo
 have hlen : s.out.length ≤ 1000000 := by have := hg.fuelB; have := hg.bnd; omega
 have hBs := hg.Bs
 have hgl := World.block_lt_of_cell? _ _ c0
 have hown2 : ∀ i : Int, ((W.alloc (.cells #[.int .i64 i] 3)).drew).ownsRow B 3 1 m.vo s.out.length (s.out.map (Value.int .i64)) := fun i => World.ownsRow.drew (World.ownsRow.alloc hown _)
 have hcr2 : ∀ i : Int, ((W.alloc (.cells #[.int .i64 i] 3)).drew).cell? ⟨rb, 8, none⟩ = some m.vo := fun i => (World.cell?_alloc_lt W _ _ hrbl).trans cr
 have hfr2 : ∀ i : Int, ((W.alloc (.cells #[.int .i64 i] 3)).drew).frozen? ⟨rb, 8, none⟩ = false := fun i => (((Below.refl _ W).alloc (Nat.le_refl _) (.cells #[.int .i64 i] 3)).frozen (p := ⟨rb, 8, none⟩) hrbl).trans fr
 replace hrbl : rb < W.heap.size := hrbl
 replace hgl : g < W.heap.size := hgl
 have hrl2 : ∀ i : Int, rb < ((W.alloc (.cells #[.int .i64 i] 3)).drew).heap.size := fun i => (show rb < (W.alloc (.cells #[.int .i64 i] 3)).heap.size from by rw [World.size_alloc]; omega)
 have hrn : some rb ≠ m.vo.ownBlock := fun e => hon e.symm
 clear hg ha hd hs hr hfl hii hci
 generalize m.vo = vo at *
 generalize s.out.length = L at *
 go_enter Tryz.func85, Tryz.ntmps85
 go_wp2_with fail
 go_region_law ((first
  | (go_simp; refine HA.out.mono ?_; rintro e w' (⟨i, hi, rfl, rfl⟩ | ⟨hi, rfl, rfl⟩); rotate_left; exact ⟨rfl, hS.out hi⟩)
  | (rw [if_pos (by rfl)]; refine wp_append_at _ _ _ 30 rfl B 3 i0 (.int .i64 0) 1 8 undInts hinf hz0 hz1 hz2 rfl (by decide) _ _ _ rfl (hown2 _) ⟨_, 0, none⟩ 1 1 [.int .i64 _] rfl rfl (cell_one_new _ _ _) (by simp [Value.oneCell']) (by simp only [maxLen]; omega) (by omega) (by simp; omega) ?_; intro v' w1 hown' hgrow hat; obtain ⟨A', n', c', rfl⟩ := ownsRow_shape hown'; have k1 := hgrow.cell (hcr2 _) hrn; have k2 := (World.frozen?_of_block (hgrow.block rb (hrl2 _) hrn)).trans (hfr2 _))))
 all_goals (go_wp2_with fail; go_ret; exact HV.out _ hi _ _ hown' hgrow hat)
def afterTry (funs : List FFun) (rec : Anf → PEnv → FSt → FOut) (b : PV) (o : FOut) : FOut := match o with | (.raised v, s') => callF funs rec b v s' | o => o
def tryP (funs : List FFun) (rec : Anf → PEnv → FSt → FOut) (a b : PV) (s : FSt) : FOut := afterTry funs rec b (callF funs rec a (.int 0) s)
theorem prim_try (hok : BodyOk rb B p inp fuel n) (hwf : ∀ g ∈ p.funs, WfA p.funs.length g.body) (hg : Good rb B p inp fuel s m W) (hn : s.left ≤ n) {a b : PV} {T U : TypeId} {x y : Value} (ha : RepV rb m W a (.iface T x)) (hb : RepV rb m W b (.iface U y)) {g cap : Nat} (hgl : g < W.heap.size) (hgm : ¬ m.mut rb g) (c0 : W.cell? ⟨g, 0, none⟩ = some (.iface T x)) (c1 : W.cell? ⟨g, 1, none⟩ = some (.iface U y)) :
 Calls Tryz.prog 85 #[.pointer (some ⟨rb, 0, none⟩), .int .i64 16, .slice (some ⟨g, 0, none⟩) 2 cap] W (EvPost rb B p inp fuel m W (tryP p.funs (evF p.funs inp n) a b s)) := by
 have HC := Lib.hid (caught_any hok hwf a s m W _ ha hg hn)
 have hle := callF_le (funs := p.funs) (evF_le p.funs inp n) a (.int 0) s
 have H2 := Lib.hid (fun (v : PV) (s' : FSt) (m' : Mem) (W' : World) (gv : Value) (hs : s'.left ≤ s.left) (hk : Evo rb m m' W W') (hg' : Good rb B p inp fuel s' m' W') (hv : RepV rb m' W' v gv) =>
  (call_any hok hwf b v (hb.evo hk) hv hg' (by omega)).mono fun e V h => EvPost.from_ hk h)
 have HK := Lib.hid (fun (m' : Mem) (W' : World) (hk : Evo rb m m' W W') => (show W'.cell? ⟨g, 1, none⟩ = some (.iface U y) from (cell_of_heap (hk.same g hgl hgm) 1).trans c1))
 unfold tryP
 generalize callF p.funs (evF p.funs inp n) a (.int 0) s = o at *
 clear hok hwf hg hn ha hb
 go_enter Tryz.func85, Tryz.ntmps85
 go_wp2_with fail
 refine HC.out.mono ?_
 intro e V h
 cases h with
 | val hk hg' hv =>
  have HP := Lib.hid (EvPost.val hk hg' hv)
  go_wp2_with fail
  go_ret
  exact HP.out
 | @raised v s' m' _ gv hk hg' hv =>
  have k1 := HK.out _ _ hk
  have HD := Lib.hid (H2.out v s' m' V gv hle.left hk hg' hv)
  clear hk hg' hv hle
  go_wp2_with fail
  refine HD.out.mono ?_
  intro e V' h
  rcases h.ends with ⟨g', rfl, hP⟩ | ⟨ch, rfl, hP⟩
  · go_wp2_with fail
    go_ret
    exact (show EvPost rb B p inp fuel m W (callF p.funs (evF p.funs inp n) b v s') _ _ from hP)
  · exact ⟨rfl, (show EvPost rb B p inp fuel m W (callF p.funs (evF p.funs inp n) b v s') _ _ from hP)⟩
 | stuck hk hg' hth => exact ⟨rfl, EvPost.stuck hk hg' hth⟩
 | cut hk hg' hth => exact ⟨rfl, EvPost.cut hk hg' hth⟩
structure ArgsIn (rb : Nat) (m : Mem) (W : World) (l : List PV) (g cap : Nat) (F : Nat → Value) : Prop where
 lt : g < W.heap.size
 still : ¬ m.mut rb g
 cells : ∀ j, j < l.length → W.cell? ⟨g, j, none⟩ = some (F j)
 rep : ∀ j (h : j < l.length), RepV rb m W l[j] (F j)
theorem arithP_eq (funs : List FFun) (inp : List Int) (rec : Anf → PEnv → FSt → FOut) (q : Int) (h9 : q ≤ 9) (a b : PV) (s : FSt) : primF funs inp rec q [a, b] s = arithP q a b s := by
 unfold primF arithP
 simp only []
 rw [if_neg (by omega), if_neg (by omega), if_neg (by omega), if_neg (by omega), if_neg (by omega), if_neg (by omega), if_neg (by omega)]
 cases a <;> cases b <;> rfl
theorem prim_any (hok : BodyOk rb B p inp fuel n) (hwf : ∀ g ∈ p.funs, WfA p.funs.length g.body) (hg : Good rb B p inp fuel s m W) (hn : s.left ≤ n) (hs : s.out.length + s.left < fuel) {q : Int} (hp1 : 1 ≤ q) (hp2 : q ≤ 16) {l : List PV} {g cap : Nat} {F : Nat → Value} (hl : l.length = if twoF q then 2 else 1) (ha : ArgsIn rb m W l g cap F) :
 Calls Tryz.prog 85 #[.pointer (some ⟨rb, 0, none⟩), .int .i64 q, .slice (some ⟨g, 0, none⟩) l.length cap] W (EvPost rb B p inp fuel m W (primF p.funs inp (evF p.funs inp n) q l s)) := by
 have hst : ∀ e w', e = .panicked (stopV 4) ∧ W = w' → EvPost rb B p inp fuel m W (.stuck, s) e w' := fun e w' h => by
  obtain ⟨rfl, rfl⟩ := h
  exact .stuck (Evo.refl _ _ _) hg (thrown_one _ _)
 have hgr : g ≠ rb := fun e => ha.still (.inl e)
 match l, hl, ha with
 | [], hl, ha => exfalso; simp at hl; split at hl <;> omega
 | [a], hl, ha =>
  have r0 := ha.rep 0 (by simp)
  have k0 := ha.cells 0 (by simp)
  obtain ⟨T, x, hF⟩ := r0.shape
  simp only [List.getElem_cons_zero] at r0
  rw [hF] at r0 k0
  have ht : twoF q = false := by cases h : twoF q <;> simp [h] at hl ⊢
  have hcase : q = 10 ∨ q = 11 ∨ q = 13 ∨ q = 14 ∨ q = 15 := by simp [twoF] at ht; omega
  rcases hcase with rfl | rfl | rfl | rfl | rfl
  · exact prim_ref hg r0 k0
  · cases a with
    | ref i =>
     cases r0
     rename_i b hb
     exact prim_get_ref hg hb k0
    | int k => cases r0; exact (prim_cell_other (.inl ⟨rfl, rfl⟩) _ (.inl rfl) _ k0 _).mono hst
    | blk t l => cases r0; exact (prim_cell_other (.inl ⟨rfl, rfl⟩) _ (.inr (.inl rfl)) _ k0 _).mono hst
    | fn i => cases r0; exact (prim_cell_other (.inl ⟨rfl, rfl⟩) _ (.inr (.inr rfl)) _ k0 _).mono hst
  · refine (prim_print hg hs r0 hgr k0).mono fun e w' h => ?_
    cases a <;> exact h
  · show Calls _ _ _ _ (EvPost rb B p inp fuel m W (readF inp s))
    unfold readF
    split
    · exact prim_read_some hg (by assumption) _
    · exact prim_read_none hg (by omega) _
  · refine (prim_raise hg r0 k0).mono fun e w' h => ?_
    exact h
 | [a, b], hl, ha =>
  have r0 := ha.rep 0 (by simp)
  have k0 := ha.cells 0 (by simp)
  have r1 := ha.rep 1 (by simp)
  have k1 := ha.cells 1 (by simp)
  obtain ⟨T, x, hF⟩ := r0.shape
  obtain ⟨U, y, hF1⟩ := r1.shape
  simp only [List.getElem_cons_zero, List.getElem_cons_succ] at r0 r1
  rw [hF] at r0 k0
  rw [hF1] at r1 k1
  have ht : twoF q = true := by cases h : twoF q <;> simp [h] at hl ⊢
  have hcase : q ≤ 9 ∨ q = 12 ∨ q = 16 := by simp [twoF] at ht; omega
  rcases hcase with h9 | rfl | rfl
  · rw [arithP_eq _ _ _ _ h9]
    exact prim_arith hg hp1 h9 r0 r1 k0 k1
  · cases a with
    | ref i =>
     cases r0
     rename_i b' hb
     exact prim_set_ref hg hb r1 k0 k1
    | int k => cases r0; exact (prim_cell_other (.inr ⟨rfl, rfl⟩) _ (.inl rfl) _ k0 _).mono hst
    | blk t l => cases r0; exact (prim_cell_other (.inr ⟨rfl, rfl⟩) _ (.inr (.inl rfl)) _ k0 _).mono hst
    | fn i => cases r0; exact (prim_cell_other (.inr ⟨rfl, rfl⟩) _ (.inr (.inr rfl)) _ k0 _).mono hst
  · exact prim_try hok hwf hg hn r0 r1 ha.lt ha.still k0 k1
 | _ :: _ :: _ :: _, hl, ha => exfalso; simp at hl; split at hl <;> omega
end
end Go.Proofs.YtnobggabjpcbfaaGreat
namespace Go.Proofs.YtnobggabjpcbfaaGreat
open Go.RowKit
section
variable {rb B : Nat} {p : FlatP} {inp : List Int} {fuel n : Nat} {s : FSt} {m : Mem} {W : World}
def FieldPost (rb : Nat) (m : Mem) (W : World) (s : FSt) (o : FOut) (e : Ending) (w' : World) : Prop := (∃ v T x, o = (.val v, s) ∧ e = .returned (.iface T x) ∧ RepV rb m W v (.iface T x) ∧ W = w') ∨ (o = (.stuck, s) ∧ e = .panicked (stopV 4) ∧ W = w')
theorem field_none (T : TypeId) (hT : T = 115 ∨ T = 156) (x : Value) (k : Nat) :
 Calls Tryz.prog 83 #[.iface T x, .int .i64 (k : Int)] W fun e w' => e = .panicked (stopV 4) ∧ W = w' := by
 have hk0 : ¬ (k : Int) < 0 := by omega
 have hk1 : (0 : Int) ≤ (k : Int) := by omega
 rcases hT with rfl | rfl
 all_goals
  go_enter Tryz.func83, Tryz.ntmps83
  go_wp2_with (go_at_call 60; refine (stuck_any _).mono ?_; rintro e w' ⟨rfl, rfl⟩)
  exact ⟨rfl, rfl, rfl⟩
theorem field_blk {b L cap : Nat} {A : Option Addr} (c : W.cell? ⟨b, 1, none⟩ = some (.slice A L cap)) (k : Nat) :
 (∀ g T x, k < L → A = some ⟨g, 0, none⟩ → L ≤ cap → W.cell? ⟨g, k, none⟩ = some (.iface T x) → Calls Tryz.prog 83 #[.iface 116 (.pointer (some ⟨b, 0, none⟩)), .int .i64 (k : Int)] W fun e w' => e = .returned (.iface T x) ∧ W = w') ∧
 (¬ k < L → Calls Tryz.prog 83 #[.iface 116 (.pointer (some ⟨b, 0, none⟩)), .int .i64 (k : Int)] W fun e w' => e = .panicked (stopV 4) ∧ W = w') := by
 have hk0 : ¬ (k : Int) < 0 := by omega
 have hk1 : (0 : Int) ≤ (k : Int) := by omega
 constructor
 · rintro g T x hk rfl hc hcell
   have hk2 : ¬ (L : Int) ≤ (k : Int) := by omega
   have hk3 : (k : Int) < (L : Int) := by omega
   go_enter Tryz.func83, Tryz.ntmps83
   go_wp2_with fail
   go_ret
   exact ⟨rfl, rfl⟩
 · intro hk
   have hk2 : (L : Int) ≤ (k : Int) := by omega
   go_enter Tryz.func83, Tryz.ntmps83
   go_wp2_with (go_at_call 60; refine (stuck_any _).mono ?_; rintro e w' ⟨rfl, rfl⟩)
   exact ⟨rfl, rfl, rfl⟩
theorem field_fn {b L cap : Nat} {A : Option Addr} (c : W.cell? ⟨b, 1, none⟩ = some (.slice A L cap)) (k : Int) (h0 : 0 ≤ k) (h255 : k ≤ 255) :
 (∀ (j : Nat) (g o : Nat) T x, k = (j : Int) + 1 → j < L → A = some ⟨g, o, none⟩ → L ≤ cap → W.cell? ⟨g, o + j, none⟩ = some (.iface T x) → Calls Tryz.prog 83 #[.iface 145 (.pointer (some ⟨b, 0, none⟩)), .int .i64 k] W fun e w' => e = .returned (.iface T x) ∧ W = w') ∧
 (¬ (1 ≤ k ∧ k ≤ L) → Calls Tryz.prog 83 #[.iface 145 (.pointer (some ⟨b, 0, none⟩)), .int .i64 k] W fun e w' => e = .panicked (stopV 4) ∧ W = w') := by
 have hw : IntKind.i64.wrap (k - 1) = k - 1 := by rw [IntKind.wrap_i64]; omega
 constructor
 · rintro j g o T x hkj hk rfl hc hcell
   obtain ⟨q, hq⟩ : ∃ q : Int, k - 1 = q := ⟨_, rfl⟩
   have hqj : q = (j : Int) := by omega
   subst hqj
   have hk0 : ¬ (j : Int) < 0 := by omega
   have hk1 : (0 : Int) ≤ (j : Int) := by omega
   have hk2 : ¬ (L : Int) ≤ (j : Int) := by omega
   have hk3 : (j : Int) < (L : Int) := by omega
   rw [hq] at hw
   have hw2 : IntKind.i64.wrap (k - 1) = (j : Int) := by rw [hq]; exact hw
   clear hkj h0 h255 hq hw
   go_enter Tryz.func83, Tryz.ntmps83
   go_wp2_with fail
   go_ret
   exact ⟨rfl, rfl⟩
 · intro hk
   by_cases hk0 : k < 1
   · have hq : k - 1 < 0 := by omega
     go_enter Tryz.func83, Tryz.ntmps83
     go_wp2_with (go_at_call 60; refine (stuck_any _).mono ?_; rintro e w' ⟨rfl, rfl⟩)
     exact ⟨rfl, rfl, rfl⟩
   · have hq : ¬ k - 1 < 0 := by omega
     have hq2 : (L : Int) ≤ k - 1 := by omega
     go_enter Tryz.func83, Tryz.ntmps83
     go_wp2_with (go_at_call 60; refine (stuck_any _).mono ?_; rintro e w' ⟨rfl, rfl⟩)
     exact ⟨rfl, rfl, rfl⟩
theorem field_any (hg : Good rb B p inp fuel s m W) {v : PV} {gv : Value} (hv : RepV rb m W v gv) {k : Int} (h0 : 0 ≤ k) (h255 : k ≤ 255) :
 Calls Tryz.prog 83 #[gv, .int .i64 k] W (FieldPost rb m W s (fieldF v k s)) := by
 obtain ⟨j, rfl⟩ : ∃ j : Nat, k = (j : Int) := ⟨k.toNat, by omega⟩
 cases hv with
 | int a => exact (field_none _ (.inl rfl) _ j).mono fun e w' ⟨h1, h2⟩ => .inr ⟨rfl, h1, h2⟩
 | ref h => exact (field_none _ (.inr rfl) _ j).mono fun e w' ⟨h1, h2⟩ => .inr ⟨rfl, h1, h2⟩
 | @blk tag kids b g cap F hb hgl hgm hl hp h8 hc hk =>
  have c1 := at_cell0 hb (i := 1) rfl
  simp only [List.getElem_toArray, List.getElem_cons_zero, List.getElem_cons_succ] at c1
  by_cases hj : j < kids.length
  · have hr := hk j hj
    obtain ⟨T, x, hF⟩ := hr.shape
    rw [hF] at hr
    refine ((field_blk c1 j).1 g T x hj rfl hl (by rw [hc j hj, hF])).mono fun e w' ⟨h1, h2⟩ => .inl ⟨kids[j], T, x, ?_, h1, hr, h2⟩
    have : (0 : Int) ≤ (j : Int) ∧ (j : Int) < (kids.length : Int) := by omega
    simp [fieldF, this, hj]
  · refine ((field_blk c1 j).2 hj).mono fun e w' ⟨h1, h2⟩ => .inr ⟨?_, h1, h2⟩
    have : ¬ ((0 : Int) ≤ (j : Int) ∧ (j : Int) < (kids.length : Int)) := by omega
    simp [fieldF, this, hj]
 | @fn i b h =>
  have hlen : i < s.made.length := by rw [← hg.falen]; exact (List.getElem?_eq_some_iff.1 h).1
  obtain ⟨b', A, cap, h1, h2, h3, h4, h5, h6⟩ := hg.fns i hlen
  rw [h] at h1; cases h1
  have c1 := at_cell0 h2 (i := 1) rfl
  simp only [List.getElem_toArray, List.getElem_cons_zero, List.getElem_cons_succ] at c1
  by_cases hj : (1 : Int) ≤ (j : Int) ∧ (j : Int) ≤ (s.made[i].2.length : Int)
  · obtain ⟨q, rfl⟩ : ∃ q, j = q + 1 := ⟨j - 1, by omega⟩
    have hq : q < s.made[i].2.length := by omega
    obtain ⟨g, o, F, rfl, hgl, hgm, hc, hr⟩ := h5 (by omega)
    have hrr := hr q hq
    obtain ⟨T, x, hF⟩ := hrr.shape
    rw [hF] at hrr
    refine ((field_fn c1 _ h0 h255).1 q g o T x (by simp) hq rfl h3 (by rw [hc q hq, hF])).mono fun e w' ⟨h1, h2⟩ => .inl ⟨s.made[i].2[q], T, x, ?_, h1, hrr, h2⟩
    unfold fieldF
    simp only [List.getElem?_eq_getElem hlen, Option.getD_some]
    rw [if_pos hj]
    simp [hq]
  · refine ((field_fn c1 _ h0 h255).2 hj).mono fun e w' ⟨h1, h2⟩ => .inr ⟨?_, h1, h2⟩
    unfold fieldF
    simp only [List.getElem?_eq_getElem hlen, Option.getD_some]
    rw [if_neg hj]
end
end Go.Proofs.YtnobggabjpcbfaaGreat
namespace Go.Proofs.YtnobggabjpcbfaaGreat
open Go.RowKit
def Persist (w w' : World) : Prop := ∀ (b : Nat) (cs : Array Value) (T : TypeId) (fr : Nat × Nat), T = 147 ∨ T = 124 → w.heap[b]? = some (.cells cs T fr) → w'.heap[b]? = some (.cells cs T fr)
theorem Persist.trans {a b c : World} (h : Persist a b) (k : Persist b c) : Persist a c := fun i cs T fr hT hh => k i cs T fr hT (h i cs T fr hT hh)
theorem Persist.below {w w' : World} (h : Below w.heap.size w w') : Persist w w' := fun b cs T fr _ hh => (h.block b (Array.getElem?_eq_some_iff.1 hh).1).trans hh
theorem Persist.alloc (w : World) (o : Obj) : Persist w (w.alloc o) := Persist.below ((Below.refl w.heap.size w).alloc (Nat.le_refl _) o)
theorem Persist.grown {w w' : World} {base : Nat} {v : Value} {n : Nat} {xs : List Value} (ho : w.ownsRow base 145 1 v n xs) (hg : w.grownBy w' v.ownBlock) : Persist w w' := fun b cs T fr hT hh => by
 refine (hg.block b (Array.getElem?_eq_some_iff.1 hh).1 ?_).trans hh
 rcases ho.2 with ⟨rfl, _⟩ | ⟨g, cap, cur, rfl, _, hgg, _⟩
 · simp [Value.ownBlock]
 · simp only [Value.ownBlock, ne_eq, Option.some.injEq]
   rintro rfl
   have := hh.symm.trans hgg
   simp only [Option.some.injEq, Obj.cells.injEq] at this
   rcases hT with rfl | rfl
   · exact absurd this.2.1 (by decide)
   · exact absurd this.2.1 (by decide)
inductive LinkIn (n0 : Nat) (w : World) (ks : List Int) (bs : List Nat) (ge : Value) : Nat → Value → Prop
 | zero : LinkIn n0 w ks bs ge 0 ge
 | succ {k : Nat} {gp : Value} {b f : Nat} (h : LinkIn n0 w ks bs ge k gp) (hlo : n0 ≤ b) (hf : bs[k]? = some f)
  (hb : w.heap[b]? = some (.cells #[.int .i64 (nth ks (3 * k)), .iface 145 (.pointer (some ⟨f, 0, none⟩)), gp] 124 (0, 0))) : LinkIn n0 w ks bs ge (k + 1) (.pointer (some ⟨b, 0, none⟩))
theorem LinkIn.persist {n0 : Nat} {w w' : World} {ks : List Int} {bs bs' : List Nat} {ge : Value} (hp : ∀ (b : Nat) (cs : Array Value) (fr : Nat × Nat), w.heap[b]? = some (.cells cs 124 fr) → w'.heap[b]? = some (.cells cs 124 fr)) (hbs : bs <+: bs') {k : Nat} {gp : Value} (h : LinkIn n0 w ks bs ge k gp) : LinkIn n0 w' ks bs' ge k gp := by
 induction h with
 | zero => exact .zero
 | succ _ hlo hf hb ih => exact .succ ih hlo (prefix_get hbs hf) (hp _ _ _ hb)
theorem LinkIn.shape {n0 : Nat} {w : World} {ks : List Int} {bs : List Nat} {ge : Value} (hge : ∃ p, ge = .pointer p) {k : Nat} {gp : Value} (h : LinkIn n0 w ks bs ge k gp) : ∃ p, gp = .pointer p := by
 cases h with
 | zero => exact hge
 | succ => exact ⟨_, rfl⟩
structure FixIn (W0 wr : World) (ks : List Int) (ge : Value) (k : Nat) (hv : Nat → Value) (bs : List Nat) (v gp : Value) : Prop where
 below : Below W0.heap.size W0 wr
 len : bs.length = k
 lo : ∀ b ∈ bs, W0.heap.size ≤ b
 nodup : bs.Nodup
 fnb : ∀ j (h : j < bs.length), wr.heap[bs[j]]? = some (.cells #[.int .i64 (nth ks (3 * j + 1)), hv j] 147 (0, 0))
 row : wr.ownsRow W0.heap.size 145 1 v k (bs.map fun b => .pointer (some ⟨b, 0, none⟩))
 lk : LinkIn W0.heap.size wr ks bs ge k gp
section
variable {W0 wr : World} {ks : List Int} {ge : Value} {k : Nat} {hv : Nat → Value} {bs : List Nat} {v gp : Value}
theorem FixIn.start (W0 : World) (ks : List Int) (ge : Value) (hv : Nat → Value) : FixIn W0 W0 ks ge 0 hv [] (.slice none 0 0) ge :=
 ⟨Below.refl _ _, rfl, by simp, by simp, by simp, ⟨by simp, .inl ⟨rfl, rfl⟩⟩, .zero⟩
theorem FixIn.behind (h : FixIn W0 wr ks ge k hv bs v gp) {V : World} (hV : Below wr.heap.size wr V) : FixIn W0 V ks ge k hv bs v gp :=
 ⟨h.below.trans (hV.mono h.below.size), h.len, h.lo, h.nodup, fun j hj => (hV.block _ (Array.getElem?_eq_some_iff.1 (h.fnb j hj)).1).trans (h.fnb j hj),
  h.row.kept ⟨hV.os, hV.tape, hV.output, hV.size, fun i hi _ => hV.block i hi⟩ (row := none) (by cases v.ownBlock <;> simp),
  h.lk.persist (fun b cs fr hh => (hV.block b (Array.getElem?_eq_some_iff.1 hh).1).trans hh) (List.prefix_refl _)⟩
theorem FixIn.more (h : FixIn W0 wr ks ge k hv bs v gp) (hhv : hv k = .slice none 0 0) {o : Obj} {w1 : World} {v' : Value}
 (hown : w1.ownsRow W0.heap.size 145 1 v' (k + 1) ((bs.map fun b => Value.pointer (some ⟨b, 0, none⟩)) ++ [.pointer (some ⟨wr.heap.size, 0, none⟩)]))
 (hgrow : ((wr.alloc (.cells #[.int .i64 (nth ks (3 * k + 1)), .slice none 0 0] 147)).alloc o).grownBy w1 v.ownBlock) :
 FixIn W0 (w1.alloc (.cells #[.int .i64 (nth ks (3 * k)), .iface 145 (.pointer (some ⟨wr.heap.size, 0, none⟩)), gp] 124)) ks ge (k + 1) hv (bs ++ [wr.heap.size]) v' (.pointer (some ⟨w1.heap.size, 0, none⟩)) := by
 have hs := h.below.size
 have hb1 : Below W0.heap.size W0 ((wr.alloc (.cells #[.int .i64 (nth ks (3 * k + 1)), .slice none 0 0] 147)).alloc o) :=
  (h.below.alloc hs _).alloc (by rw [World.size_alloc]; exact Nat.le_trans hs (Nat.le_succ _)) _
 have hb2 : Below W0.heap.size W0 w1 := hb1.grown hgrow hb1.size (fun j hj => (h.row.lt j hj).1)
 have p1 : Persist wr ((wr.alloc (.cells #[.int .i64 (nth ks (3 * k + 1)), .slice none 0 0] 147)).alloc o) :=
  Persist.trans (Persist.alloc wr _) (Persist.alloc _ _)
 have hr1 := (h.row.alloc (.cells #[.int .i64 (nth ks (3 * k + 1)), .slice none 0 0] 147)).alloc o
 have p2 : Persist ((wr.alloc (.cells #[.int .i64 (nth ks (3 * k + 1)), .slice none 0 0] 147)).alloc o) w1 := Persist.grown hr1 hgrow
 have p3 := Persist.alloc w1 (.cells #[.int .i64 (nth ks (3 * k)), .iface 145 (.pointer (some ⟨wr.heap.size, 0, none⟩)), gp] 124)
 have hp := (p1.trans p2).trans p3
 have hfn : (w1.alloc (.cells #[.int .i64 (nth ks (3 * k)), .iface 145 (.pointer (some ⟨wr.heap.size, 0, none⟩)), gp] 124)).heap[wr.heap.size]? = some (.cells #[.int .i64 (nth ks (3 * k + 1)), .slice none 0 0] 147 (0, 0)) :=
  (p2.trans p3) _ _ _ _ (.inl rfl) ((Persist.alloc _ o) _ _ _ _ (.inl rfl) (World.alloc_heap_new wr _))
 refine ⟨hb2.alloc hb2.size _, by simp [h.len], ?_, ?_, ?_, ?_, ?_⟩
 · intro b hb
   rcases List.mem_append.1 hb with hb | hb
   · exact h.lo b hb
   · simp at hb; omega
 · rw [List.nodup_append]
   refine ⟨h.nodup, by simp, fun x hx y hy => ?_⟩
   obtain ⟨i, hi, rfl⟩ := List.getElem_of_mem hx
   have := (Array.getElem?_eq_some_iff.1 (h.fnb i hi)).1
   simp at hy; omega
 · intro j hj
   by_cases hjk : j < bs.length
   · rw [List.getElem_append_left hjk]
     exact hp _ _ _ _ (.inl rfl) (h.fnb j hjk)
   · have : j = k := by simp at hj; have := h.len; omega
     subst this
     have h' : (bs ++ [wr.heap.size])[j] = wr.heap.size := by rw [List.getElem_append_right (by have := h.len; omega)]; simp
     rw [h', hfn, hhv]
 · have := hown.alloc (.cells #[.int .i64 (nth ks (3 * k)), .iface 145 (.pointer (some ⟨wr.heap.size, 0, none⟩)), gp] 124)
   simpa using this
 · refine .succ (h.lk.persist (fun b cs fr hh => hp b cs _ fr (.inr rfl) hh) (List.prefix_append _ _)) hb2.size (f := wr.heap.size) ?_ (World.alloc_heap_new w1 _)
   rw [← h.len, List.getElem?_append_right (Nat.le_refl _)]; simp
theorem FixIn.hold (h : FixIn W0 wr ks ge k hv bs v gp) {j : Nat} (hj : j < bs.length) (u : Value) :
 FixIn W0 (wr.setCell ⟨bs[j], 1, none⟩ u) ks ge k (fun i => if i = j then u else hv i) bs v gp := by
 have hlo := h.lo _ (List.getElem_mem hj)
 have hfj := h.fnb j hj
 refine ⟨h.below.setCell (p := ⟨bs[j], 1, none⟩) hlo _, h.len, h.lo, h.nodup, ?_, ?_, ?_⟩
 · intro i hi
   by_cases hij : i = j
   · subst hij
     rw [heap_set_self hfj]
     simp
   · have hne : bs[i] ≠ bs[j] := fun e => by
      have hp := List.pairwise_iff_getElem.1 h.nodup
      rcases Nat.lt_or_gt_of_ne hij with hlt | hgt
      · exact hp i j hi hj hlt e
      · exact hp j i hj hi hgt e.symm
     rw [heap_set_ne hne, h.fnb i hi]
     simp [hij]
 · refine h.row.kept (row := some bs[j]) ⟨rfl, rfl, rfl, by simp [World.setCell], fun i hi hne => heap_set_ne (fun e => hne (by rw [e])) _ _⟩ ?_
   rcases h.row.2 with ⟨rfl, _⟩ | ⟨g, cap, cur, rfl, _, hgg, _⟩
   · exact .inl rfl
   · refine .inr ?_
     simp only [Value.ownBlock, ne_eq, Option.some.injEq]
     rintro rfl
     have := hfj.symm.trans hgg
     simp only [Option.some.injEq, Obj.cells.injEq] at this
     exact absurd this.2.1 (by decide)
 · refine h.lk.persist (fun b cs fr hh => ?_) (List.prefix_refl _)
   refine (heap_set_ne ?_ _ _).trans hh
   rintro rfl
   have := hfj.symm.trans hh
   simp only [Option.some.injEq, Obj.cells.injEq] at this
   exact absurd this.2.1 (by decide)
end
section
variable {rb B : Nat} {p : FlatP} {inp : List Int} {fuel n : Nat} {s : FSt} {m : Mem} {W W0 W' : World}
theorem LinkIn.env {ks : List Int} {bs : List Nat} {ge : Value} {k : Nat} {gp : Value} (h : LinkIn W0.heap.size W' ks bs ge k gp) (hm : ∀ k, W0.heap.size ≤ k → ¬ m.mut rb k) (hk : 3 * k ≤ ks.length) {m' : Mem} (hm' : ∀ k, m'.mut rb k ↔ m.mut rb k) (hfa : ∀ j b, bs[j]? = some b → m'.fa[s.made.length + j]? = some b)
 {e : PEnv} (he : EnvIn rb m' W' e ge) : EnvIn rb m' W' (groupEnv (ks.take (3 * k)) s.made.length e) gp := by
 induction h with
 | zero => simpa [groupEnv] using he
 | @succ k gp b f h hlo hf hb ih =>
  rw [groupEnv_take ks _ _ (by omega)]
  exact .cons ⟨hb, fun hx => hm b hlo ((hm' b).1 hx)⟩ (.fn (hfa _ _ hf)) (ih (by omega))
theorem Good.groupEnv_ (hg : Good rb B p inp fuel s m W) (hW0 : Below W.heap.size W W0) {ks : List Int} {q : Nat} (hks : ks.length = 3 * q) {e : PEnv} {ge : Value} (he : EnvIn rb m W e ge) {hv : Nat → Value} {bs : List Nat} {v gp : Value} (h : FixIn W0 W' ks ge q hv bs v gp) :
 Evo rb m { m with fa := m.fa ++ bs } W W' ∧ EnvIn rb { m with fa := m.fa ++ bs } W' (groupEnv ks s.made.length e) gp := by
 have hsz := hW0.size
 have hbW : Below W.heap.size W W' := hW0.trans (h.below.mono hsz)
 have hk : Evo rb m { m with fa := m.fa ++ bs } W W' := (Evo.below hbW).more (List.prefix_append _ _) (List.prefix_refl _) (fun k hk => .inl hk)
 refine ⟨hk, ?_⟩
 have := h.lk.env (s := s) (m := m) (m' := { m with fa := m.fa ++ bs }) (rb := rb) (fun k hk hm => by have := hg.mutLt hm; omega) (by omega) (fun k => Iff.rfl) (fun j f hf => ?_) (he.evo hk)
 · rwa [List.take_of_length_le (by omega)] at this
 · show (m.fa ++ bs)[s.made.length + j]? = _
   rw [← hg.falen, List.getElem?_append_right (by omega)]
   simpa using hf
def HeldAt (g off h : Nat) (v : Value) : Prop := ∃ A c, v = .slice A h c ∧ h ≤ c ∧ (0 < h → A = some ⟨g, off, none⟩)
theorem Good.grouped (hg : Good rb B p inp fuel s m W) (hW0 : Below W.heap.size W W0) {ks : List Int} {na q : Nat} (hks : GroupOk p.funs.length ks na q) {e : PEnv} {ge : Value} (he : EnvIn rb m W e ge) {hv : Nat → Value} {bs : List Nat} {v gp : Value} (h : FixIn W0 W' ks ge q hv bs v gp)
 {l : List PV} {g : Nat} (hl : l.length = na) (hgl : 0 < l.length → g < W'.heap.size ∧ ¬ m.mut rb g) {F : Nat → Value} (hc : ∀ j, j < l.length → W'.cell? ⟨g, j, none⟩ = some (F j)) (hr : ∀ j (h : j < l.length), RepV rb { m with fa := m.fa ++ bs } W' l[j] (F j))
 (hheld : ∀ j, j < q → HeldAt g (offN ks j) (nth ks (3 * j + 2)).toNat (hv j)) :
 Good rb B p inp fuel { s with made := s.made ++ groupMade ks l } { m with fa := m.fa ++ bs } W' ∧ Evo rb m { m with fa := m.fa ++ bs } W W' ∧ EnvIn rb { m with fa := m.fa ++ bs } W' (groupEnv ks s.made.length e) gp := by
 obtain ⟨hk, henv⟩ := hg.groupEnv_ hW0 hks.len he h
 have hsz := hW0.size
 have hbW : Below W.heap.size W W' := hW0.trans (h.below.mono hsz)
 have hgW := hg.below hbW
 have hlen : (groupMade ks l).length = q := groupMade_length q ks l hks.len
 refine ⟨⟨hgW.Bs, hg.rbB, hg.left, hg.fuelB, hg.bnd, hgW.run, hgW.out, ?_, ?_, hg.calen, ?_, hg.nodup, hg.rbca, hg.rbo, hg.oca, hg.caB⟩, hk, henv⟩
 · show (m.fa ++ bs).length = (s.made ++ _).length
   simp [hg.falen, hlen, h.len]
 · intro i hi
   by_cases hi' : i < s.made.length
   · simp only [List.getElem_append_left hi']
     exact hg.fnsEvo hk i hi'
   · have hj : i - s.made.length < q := by simp [hlen] at hi; omega
     have hjb : i - s.made.length < bs.length := by rw [h.len]; exact hj
     have hget := groupMade_get q ks l hks.len (i - s.made.length) hj
     have hget' : (s.made ++ groupMade ks l)[i] = (nth ks (3 * (i - s.made.length) + 1), (l.drop (offN ks (i - s.made.length))).take (nth ks (3 * (i - s.made.length) + 2)).toNat) := by
      rw [List.getElem_append_right (by omega)]
      rw [List.getElem?_eq_getElem (by omega)] at hget
      exact Option.some.inj hget
     obtain ⟨A, c, hv1, hv2, hv3⟩ := hheld _ hj
     have hoff : offN ks (i - s.made.length) + (nth ks (3 * (i - s.made.length) + 2)).toNat ≤ l.length := by
      have := offN_mono ks (show i - s.made.length + 1 ≤ q by omega)
      rw [hks.sum] at this
      rw [hl]
      exact this
     obtain ⟨h0, h255⟩ := hks.h _ hj
     obtain ⟨f0, f1⟩ := hks.f _ hj
     have hfb := h.fnb _ hjb
     generalize offN ks (i - s.made.length) = off at *
     generalize hH : (nth ks (3 * (i - s.made.length) + 2)).toNat = hh at *
     have hll : ((l.drop off).take hh).length = hh := by simp; omega
     simp only [hget', hll]
     refine ⟨bs[i - s.made.length], A, c, ?_, ⟨?_, ?_⟩, hv2, by omega, fun h00 => ?_, f0, f1⟩
     · show (m.fa ++ bs)[i]? = _
       rw [List.getElem?_append_right (by rw [hg.falen]; omega), hg.falen, List.getElem?_eq_getElem hjb]
     · rw [hfb, hv1]
     · intro hm
       have := hg.mutLt (k := bs[i - s.made.length]) hm
       have := h.lo _ (List.getElem_mem hjb)
       omega
     · have hp : 0 < hh := by rw [hll] at h00; exact h00
       obtain ⟨g1, g2⟩ := hgl (by omega)
       refine ⟨g, off, fun j => F (off + j), hv3 hp, g1, g2, fun j hj => hc _ (by rw [hll] at hj; omega), fun j hj => ?_⟩
       have := hr (off + j) (by rw [hll] at hj; omega)
       simpa using this
 · intro i hi
   obtain ⟨b', gv, h1, h2, h3⟩ := hg.cells i hi
   exact ⟨b', gv, h1, (hbW.block b' (Array.getElem?_eq_some_iff.1 h2).1).trans h2, h3.evo hk⟩
end
end Go.Proofs.YtnobggabjpcbfaaGreat
