/-
  The program's evaluator: primitives on two ints; print; try.
-/
import Derived.Test.YtnolhcdfknjncaaDoorE8
import Derived.Test.YtnolhcdfknjncaaDoorEM
import Derived.Deep.RegionLaw
set_option linter.unusedVariables false
set_option linter.unusedSimpArgs false
namespace Go.Proofs.YtnolhcdfknjncaaDoor
open Go.RowKit

section
variable {rb B : Nat} {inp : List Int} {fuel n : Nat} {s : St} {m : Mem} {W : World}

def arithP (p : Int) (a b : PV) (s : St) : Out :=
  match numOf a, numOf b with
  | some x, some y => (match doP p x y with | some n => (.val (.int n), s) | none => (.raised (.int 0), s))
  | _, _ => (.stuck, s)

set_option maxRecDepth 100000 in
set_option maxHeartbeats 2000000 in
theorem prim_arith (hg : Good rb B inp fuel s m W) {p : Int} (hp1 : 1 ≤ p) (hp9 : p ≤ 9) {a b : PV} {T U : TypeId} {x y : Value} (ha : RepV rb m W a (.iface T x)) (hb : RepV rb m W b (.iface U y)) {g cap : Nat} (c0 : W.cell? ⟨g, 0, none⟩ = some (.iface T x)) (c1 : W.cell? ⟨g, 1, none⟩ = some (.iface U y)) :
    Calls Tryd.prog 43 #[.pointer (some ⟨rb, 0, none⟩), .int .i64 p, .slice (some ⟨g, 0, none⟩) 2 cap] W (EvPost rb B inp fuel m W (arithP p a b s)) := by
  have e10 : (p == 10) = false := by simp; omega
  have e11 : (p == 11) = false := by simp; omega
  have e12 : (p == 12) = false := by simp; omega
  have e13 : (p == 13) = false := by simp; omega
  have e14 : (p == 14) = false := by simp; omega
  have e15 : (p == 15) = false := by simp; omega
  have e16 : (p == 16) = false := by simp; omega
  have hd : Evo rb m m W W.drew := (Evo.refl _ _ _).drew
  have HA := Lib.hid (cnumber_any (ha.evo hd))
  have HB := Lib.hid (cnumber_any (hb.evo hd))
  have HS := Lib.hid (fun (h : numOf a = none ∨ numOf b = none) => (show EvPost rb B inp fuel m W (arithP p a b s) (.panicked (stopV 4)) W.drew from by
    have : arithP p a b s = (.stuck, s) := by
      unfold arithP
      rcases h with h | h
      · rw [h]
      · rw [h]; cases numOf a <;> rfl
    rw [this]
    exact EvPost.stuck hd (hg.below (Below.refl _ _).drew) (thrown_one _ _)))
  have HV := Lib.hid (fun (i j k : Int) (hi : numOf a = some i) (hj : numOf b = some j) (w' : World) (hw : Below W.heap.size W w') (hk : doP p i j = some k) => (show EvPost rb B inp fuel m W (arithP p a b s) (.returned (.iface 87 (.int .i64 k))) w' from by
    have : arithP p a b s = (.val (.int k), s) := by unfold arithP; rw [hi, hj]; simp [hk]
    rw [this]
    exact EvPost.val (Evo.below hw) (hg.below hw) (.int k)))
  have HR := Lib.hid (fun (i j : Int) (hi : numOf a = some i) (hj : numOf b = some j) (w' : World) (hw : Below W.heap.size W w') (hk : doP p i j = none) => (show EvPost rb B inp fuel m W (arithP p a b s) (.panicked (raisedV (.iface 87 (.int .i64 0)))) w' from by
    have : arithP p a b s = (.raised (.int 0), s) := by unfold arithP; rw [hi, hj]; simp [hk]
    rw [this]
    exact EvPost.raised (Evo.below hw) (hg.below hw) (.int 0) ⟨0, rfl⟩ (thrown_one _ _)))
  generalize arithP p a b s = o at *
  have HD := Lib.hid (fun (i j : Int) => do_any p i j hp1 hp9 W.drew)
  clear hg ha hb hd hp1 hp9
  go_enter Tryd.func43, Tryd.ntmps43
  go_wp2_with fail
  go_region_held2 (fun w' => w'.cell? ⟨g, 0, none⟩ = some (.iface T x) ∧ w'.cell? ⟨g, 1, none⟩ = some (.iface U y)) (exact ⟨c0, c1⟩)
    ((first
      | (go_at_call 69; (with_reducible refine HA.out.mono ?_); rintro e w' (⟨i, hi, rfl, rfl⟩ | ⟨hi, rfl, rfl⟩); rotate_left; exact ⟨rfl, HS.out (.inl hi)⟩)
      | (go_at_call 69; (with_reducible refine HB.out.mono ?_); rintro e w' (⟨j, hj, rfl, rfl⟩ | ⟨hj, rfl, rfl⟩); rotate_left; exact ⟨rfl, HS.out (.inr hj)⟩)))
  go_wp2_with fail
  refine (HD.out i j).mono ?_
  rintro e w' (⟨k, hk, rfl, hw⟩ | ⟨hk, rfl, hw⟩)
  · go_wp2_with fail
    go_ret
    exact HV.out i j k hi hj _ ⟨hw.os, hw.tape, hw.output, hw.size, hw.block⟩ hk
  · go_wp2_with fail
    exact ⟨rfl, HR.out i j hi hj _ ⟨hw.os, hw.tape, hw.output, hw.size, hw.block⟩ hk⟩

theorem ownsRow_shape {w : World} {base : Nat} {e : TypeId} {size : Nat} {v : Value} {n : Nat} {xs : List Value} (h : w.ownsRow base e size v n xs) : ∃ A k c, v = .slice A k c := by
  rcases h.2 with ⟨rfl, _⟩ | ⟨g, cap, cur, rfl, _⟩ <;> exact ⟨_, _, _, rfl⟩

set_option maxRecDepth 100000 in
set_option maxHeartbeats 2000000 in
theorem prim_print (hg : Good rb B inp fuel s m W) (hs : s.out.length + s.left < fuel) {a : PV} {T : TypeId} {x : Value} (ha : RepV rb m W a (.iface T x)) {g cap : Nat} (hgr : g ≠ rb) (c0 : W.cell? ⟨g, 0, none⟩ = some (.iface T x)) :
    Calls Tryd.prog 43 #[.pointer (some ⟨rb, 0, none⟩), .int .i64 13, .slice (some ⟨g, 0, none⟩) 1 cap] W (EvPost rb B inp fuel m W (match numOf a with | some k => (.val (.int 0), { s with out := s.out ++ [k] }) | none => (.stuck, s))) := by
  have hd : Evo rb m m W W.drew := (Evo.refl _ _ _).drew
  have HA := Lib.hid (cnumber_any (ha.evo hd))
  obtain ⟨i0, hinf, hz0, hz1, hz2⟩ := info_parts Tryd.info3
  have hS := Lib.hid (fun (h : numOf a = none) => (show EvPost rb B inp fuel m W (match numOf a with | some k => (.val (.int 0), { s with out := s.out ++ [k] }) | none => (.stuck, s)) (.panicked (stopV 4)) W.drew from by
    rw [h]
    exact EvPost.stuck hd (hg.below (Below.refl _ _).drew) (thrown_one _ _)))
  have HV := Lib.hid (fun (k : Int) (hk : numOf a = some k) (w1 : World) (v' : Value) (h1 : w1.ownsRow B 3 1 v' (s.out.length + 1) (s.out.map (Value.int .i64) ++ [.int .i64 k])) (h2 : (W.drew.alloc (.cells #[.int .i64 k] 3)).grownBy w1 m.vo.ownBlock)
      (hat : v'.ownBlock = m.vo.ownBlock ∨ v'.ownBlock = some (W.drew.alloc (.cells #[.int .i64 k] 3)).heap.size) => (show EvPost rb B inp fuel m W (match numOf a with | some k => (.val (.int 0), { s with out := s.out ++ [k] }) | none => (.stuck, s)) (.returned (.iface 87 (.int .i64 0))) (w1.setCell ⟨rb, 4, none⟩ v') from by
    obtain ⟨q1, q2⟩ := hg.print hs ((Below.refl _ W).drew.alloc (Nat.le_refl _) (.cells #[.int .i64 k] 3)) h1 h2 hat
    rw [hk]
    exact EvPost.val q2 q1 (.int 0)))
  generalize (match numOf a with | some k => ((.val (.int 0), { s with out := s.out ++ [k] }) : Out) | none => (.stuck, s)) = o at *
  obtain ⟨Ai, ci, hr, hii, hci⟩ := hg.run
  have cr : W.cell? ⟨rb, 4, none⟩ = some m.vo := by simp [World.cell?, hr]
  have fr : W.frozen? ⟨rb, 4, none⟩ = false := by simp [World.frozen?, hr]
  have hrbl := World.block_lt_of_cell? _ _ cr
  have hown := hg.out
  have hon := hg.rbo
  have hlen : s.out.length ≤ 1000000 := by have := hg.fuelB; have := hg.bnd; omega
  have hBs := hg.Bs
  have hgl := World.block_lt_of_cell? _ _ c0
  have hown2 : ∀ i : Int, ((W.alloc (.cells #[.int .i64 i] 3)).drew).ownsRow B 3 1 m.vo s.out.length (s.out.map (Value.int .i64)) := fun i => World.ownsRow.drew (World.ownsRow.alloc hown _)
  have hcr2 : ∀ i : Int, ((W.alloc (.cells #[.int .i64 i] 3)).drew).cell? ⟨rb, 4, none⟩ = some m.vo := fun i => (World.cell?_alloc_lt W _ _ hrbl).trans cr
  have hfr2 : ∀ i : Int, ((W.alloc (.cells #[.int .i64 i] 3)).drew).frozen? ⟨rb, 4, none⟩ = false := fun i => (((Below.refl _ W).alloc (Nat.le_refl _) (.cells #[.int .i64 i] 3)).frozen (p := ⟨rb, 4, none⟩) hrbl).trans fr
  replace hrbl : rb < W.heap.size := hrbl
  replace hgl : g < W.heap.size := hgl
  have hrl2 : ∀ i : Int, rb < ((W.alloc (.cells #[.int .i64 i] 3)).drew).heap.size := fun i => (show rb < (W.alloc (.cells #[.int .i64 i] 3)).heap.size from by rw [World.size_alloc]; omega)
  have hrn : some rb ≠ m.vo.ownBlock := fun e => hon e.symm
  clear hg ha hd hs hr hii hci
  generalize m.vo = vo at *
  generalize s.out.length = L at *
  go_enter Tryd.func43, Tryd.ntmps43
  go_wp2_with fail
  go_region_law ((first
      | (go_simp; refine HA.out.mono ?_; rintro e w' (⟨i, hi, rfl, rfl⟩ | ⟨hi, rfl, rfl⟩); rotate_left; exact ⟨rfl, hS.out hi⟩)
      | (rw [if_pos (by rfl)]; refine wp_append_at _ _ _ 23 rfl B 3 i0 (.int .i64 0) 1 8 Tryd.underlying23 hinf hz0 hz1 hz2 rfl (by decide) _ _ _ rfl (hown2 _) ⟨_, 0, none⟩ 1 1 [.int .i64 _] rfl rfl (cell_one_new _ _ _) (by simp [Value.oneCell']) (by simp only [maxLen]; omega) (by omega) (by simp; omega) ?_; intro v' w1 hown' hgrow hat; obtain ⟨A', n', c', rfl⟩ := ownsRow_shape hown'; have k1 := hgrow.cell (hcr2 _) hrn; have k2 := (World.frozen?_of_block (hgrow.block rb (hrl2 _) hrn)).trans (hfr2 _))))
  all_goals (go_wp2_with fail; go_ret; exact HV.out _ hi _ _ hown' hgrow hat)

def afterTry (rec : Core → PEnv → St → Out) (b : PV) (o : Out) : Out := match o with | (.raised v, s') => callP rec b v s' | o => o
def tryP (rec : Core → PEnv → St → Out) (a b : PV) (s : St) : Out := afterTry rec b (callP rec a (.int 0) s)

set_option maxRecDepth 100000 in
set_option maxHeartbeats 2000000 in
theorem prim_try (hok : TermOk rb B inp fuel n) (hg : Good rb B inp fuel s m W) (hn : s.left < n) {a b : PV} {T U : TypeId} {x y : Value} (ha : RepV rb m W a (.iface T x)) (hb : RepV rb m W b (.iface U y)) {g cap : Nat} (hgl : g < W.heap.size) (hgm : ¬ m.mut rb g) (c0 : W.cell? ⟨g, 0, none⟩ = some (.iface T x)) (c1 : W.cell? ⟨g, 1, none⟩ = some (.iface U y)) :
    Calls Tryd.prog 43 #[.pointer (some ⟨rb, 0, none⟩), .int .i64 16, .slice (some ⟨g, 0, none⟩) 2 cap] W (EvPost rb B inp fuel m W (tryP (ev inp n) a b s)) := by
  have HC := Lib.hid (caught_any hok a s m W _ ha hg hn)
  have hle := callP_le (ev_le inp n) a (.int 0) s
  have H2 := Lib.hid (fun (v : PV) (s' : St) (m' : Mem) (W' : World) (gv : Value) (hs : s'.left ≤ s.left) (hk : Evo rb m m' W W') (hg' : Good rb B inp fuel s' m' W') (hv : RepV rb m' W' v gv) =>
    (call_any hok b v s' m' W' _ _ (hb.evo hk) hv hg' (by omega)).mono fun e V h => EvPost.from_ hk h)
  have HK := Lib.hid (fun (m' : Mem) (W' : World) (hk : Evo rb m m' W W') => (show W'.cell? ⟨g, 1, none⟩ = some (.iface U y) from (cell_of_heap (hk.same g hgl hgm) 1).trans c1))
  unfold tryP
  generalize callP (ev inp n) a (.int 0) s = o at *
  clear hok hg hn ha hb
  go_enter Tryd.func43, Tryd.ntmps43
  go_wp2_with fail
  refine HC.out.mono ?_
  intro e V h
  cases h with
  | val hk hg' hv =>
    have HP := Lib.hid (EvPost.val hk hg' hv)
    go_wp2_with fail
    go_ret
    exact HP.out
  | @raised v s' m' _ gv hk hg' hv =>
    have k1 := HK.out _ _ hk
    have HD := Lib.hid (H2.out v s' m' V gv hle.left hk hg' hv)
    clear hk hg' hv hle
    go_wp2_with fail
    refine HD.out.mono ?_
    intro e V' h
    rcases h.ends with ⟨g', rfl, hP⟩ | ⟨ch, rfl, hP⟩
    · go_wp2_with fail
      go_ret
      exact (show EvPost rb B inp fuel m W (callP (ev inp n) b v s') _ _ from hP)
    · exact ⟨rfl, (show EvPost rb B inp fuel m W (callP (ev inp n) b v s') _ _ from hP)⟩
  | stuck hk hg' hth => exact ⟨rfl, EvPost.stuck hk hg' hth⟩
  | cut hk hg' hth => exact ⟨rfl, EvPost.cut hk hg' hth⟩

/-- what a primitive is handed -/
structure ArgsIn (rb : Nat) (m : Mem) (W : World) (l : List PV) (g cap : Nat) (F : Nat → Value) : Prop where
  lt : g < W.heap.size
  still : ¬ m.mut rb g
  cells : ∀ j, j < l.length → W.cell? ⟨g, j, none⟩ = some (F j)
  rep : ∀ j (h : j < l.length), RepV rb m W l[j] (F j)

theorem arithP_eq (inp : List Int) (rec : Core → PEnv → St → Out) (p : Int) (h9 : p ≤ 9) (a b : PV) (s : St) : primP inp rec p [a, b] s = arithP p a b s := by
  unfold primP arithP
  simp only []
  rw [if_neg (by omega), if_neg (by omega), if_neg (by omega), if_neg (by omega), if_neg (by omega), if_neg (by omega), if_neg (by omega)]
  cases a <;> cases b <;> rfl

theorem prim_any (hok : TermOk rb B inp fuel n) (hg : Good rb B inp fuel s m W) (hn : s.left < n) (hs : s.out.length + s.left < fuel) {p : Int} (hp1 : 1 ≤ p) (hp2 : p ≤ 16) {l : List PV} {g cap : Nat} {F : Nat → Value} (hl : l.length = if two p then 2 else 1) (ha : ArgsIn rb m W l g cap F) :
    Calls Tryd.prog 43 #[.pointer (some ⟨rb, 0, none⟩), .int .i64 p, .slice (some ⟨g, 0, none⟩) l.length cap] W (EvPost rb B inp fuel m W (primP inp (ev inp n) p l s)) := by
  have hst : ∀ e w', e = .panicked (stopV 4) ∧ W = w' → EvPost rb B inp fuel m W (.stuck, s) e w' := fun e w' h => by
    obtain ⟨rfl, rfl⟩ := h
    exact .stuck (Evo.refl _ _ _) hg (thrown_one _ _)
  have hgr : g ≠ rb := fun e => ha.still (.inl e)
  match l, hl, ha with
  | [], hl, ha => exfalso; simp at hl; split at hl <;> omega
  | [a], hl, ha =>
    have r0 := ha.rep 0 (by simp)
    have k0 := ha.cells 0 (by simp)
    obtain ⟨T, x, hF⟩ := r0.shape
    simp only [List.getElem_cons_zero] at r0
    rw [hF] at r0 k0
    have ht : two p = false := by cases h : two p <;> simp [h] at hl ⊢
    have hcase : p = 10 ∨ p = 11 ∨ p = 13 ∨ p = 14 ∨ p = 15 := by simp [two] at ht; omega
    rcases hcase with rfl | rfl | rfl | rfl | rfl
    · exact prim_ref hg r0 k0
    · cases a with
      | ref i =>
        cases r0
        rename_i b hb
        exact prim_get_ref hg hb k0
      | int k => cases r0; exact (prim_cell_other (.inl ⟨rfl, rfl⟩) _ (.inl rfl) _ k0 _).mono hst
      | blk t l => cases r0; exact (prim_cell_other (.inl ⟨rfl, rfl⟩) _ (.inr (.inl rfl)) _ k0 _).mono hst
      | fn i => cases r0; exact (prim_cell_other (.inl ⟨rfl, rfl⟩) _ (.inr (.inr rfl)) _ k0 _).mono hst
    · refine (prim_print hg hs r0 hgr k0).mono fun e w' h => ?_
      cases a <;> exact h
    · show Calls _ _ _ _ (EvPost rb B inp fuel m W (readP inp s))
      unfold readP
      split
      · exact prim_read_some hg (by assumption) _
      · exact prim_read_none hg (by omega) _
    · refine (prim_raise hg r0 k0).mono fun e w' h => ?_
      exact h
  | [a, b], hl, ha =>
    have r0 := ha.rep 0 (by simp)
    have k0 := ha.cells 0 (by simp)
    have r1 := ha.rep 1 (by simp)
    have k1 := ha.cells 1 (by simp)
    obtain ⟨T, x, hF⟩ := r0.shape
    obtain ⟨U, y, hF1⟩ := r1.shape
    simp only [List.getElem_cons_zero, List.getElem_cons_succ] at r0 r1
    rw [hF] at r0 k0
    rw [hF1] at r1 k1
    have ht : two p = true := by cases h : two p <;> simp [h] at hl ⊢
    have hcase : p ≤ 9 ∨ p = 12 ∨ p = 16 := by simpa [two] using ht
    rcases hcase with h9 | rfl | rfl
    · rw [arithP_eq _ _ _ h9]
      exact prim_arith hg hp1 h9 r0 r1 k0 k1
    · cases a with
      | ref i =>
        cases r0
        rename_i b' hb
        exact prim_set_ref hg hb r1 k0 k1
      | int k => cases r0; exact (prim_cell_other (.inr ⟨rfl, rfl⟩) _ (.inl rfl) _ k0 _).mono hst
      | blk t l => cases r0; exact (prim_cell_other (.inr ⟨rfl, rfl⟩) _ (.inr (.inl rfl)) _ k0 _).mono hst
      | fn i => cases r0; exact (prim_cell_other (.inr ⟨rfl, rfl⟩) _ (.inr (.inr rfl)) _ k0 _).mono hst
    · exact prim_try hok hg hn r0 r1 ha.lt ha.still k0 k1
  | _ :: _ :: _ :: _, hl, ha => exfalso; simp at hl; split at hl <;> omega
end
end Go.Proofs.YtnolhcdfknjncaaDoor
