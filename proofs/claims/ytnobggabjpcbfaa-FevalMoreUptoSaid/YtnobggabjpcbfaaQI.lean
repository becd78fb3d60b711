/-
  9 texts of this seat in one: H12 H13 H14 H15 H16 H17 H18 H19 H20.
-/
import Derived.Test.YtnobggabjpcbfaaQH
import Derived.Test.YtnobggabjpcbfaaQK
import Derived.StillTailTactics
/-
  The flat evaluator: fields.
-/
set_option linter.unusedVariables false
set_option linter.unusedSimpArgs false
namespace Go.Proofs.Ytnobggabjpcbfaa
open Go.RowKit

section
variable {rb B : Nat} {p : FlatP} {inp : List Int} {fuel n : Nat} {s : FSt} {m : Mem} {W : World}
def FieldPost (rb : Nat) (m : Mem) (W : World) (s : FSt) (o : FOut) (e : Ending) (w' : World) : Prop := (∃ v T x, o = (.val v, s) ∧ e = .returned (.iface T x) ∧ RepV rb m W v (.iface T x) ∧ W = w') ∨ (o = (.stuck, s) ∧ e = .panicked (stopV 4) ∧ W = w')
theorem field_none (T : TypeId) (hT : T = 90 ∨ T = 117) (x : Value) (k : Nat) :
    Calls Try.prog 65 #[.iface T x, .int .i64 (k : Int)] W fun e w' => e = .panicked (stopV 4) ∧ W = w' := by
  have hk0 : ¬ (k : Int) < 0 := by omega
  have hk1 : (0 : Int) ≤ (k : Int) := by omega
  rcases hT with rfl | rfl
  all_goals
    go_enter Try.func65, Try.ntmps65
    go_wp2_with (go_at_call 50; refine (stuck_any _).mono ?_; rintro e w' ⟨rfl, rfl⟩)
    exact ⟨rfl, rfl, rfl⟩
theorem field_blk {b L cap : Nat} {A : Option Addr} (c : W.cell? ⟨b, 1, none⟩ = some (.slice A L cap)) (k : Nat) :
    (∀ g T x, k < L → A = some ⟨g, 0, none⟩ → L ≤ cap → W.cell? ⟨g, k, none⟩ = some (.iface T x) → Calls Try.prog 65 #[.iface 91 (.pointer (some ⟨b, 0, none⟩)), .int .i64 (k : Int)] W fun e w' => e = .returned (.iface T x) ∧ W = w') ∧
    (¬ k < L → Calls Try.prog 65 #[.iface 91 (.pointer (some ⟨b, 0, none⟩)), .int .i64 (k : Int)] W fun e w' => e = .panicked (stopV 4) ∧ W = w') := by
  have hk0 : ¬ (k : Int) < 0 := by omega
  have hk1 : (0 : Int) ≤ (k : Int) := by omega
  constructor
  · rintro g T x hk rfl hc hcell
    have hk2 : ¬ (L : Int) ≤ (k : Int) := by omega
    have hk3 : (k : Int) < (L : Int) := by omega
    go_enter Try.func65, Try.ntmps65
    go_wp2_with fail
    go_ret
    exact ⟨rfl, rfl⟩
  · intro hk
    have hk2 : (L : Int) ≤ (k : Int) := by omega
    go_enter Try.func65, Try.ntmps65
    go_wp2_with (go_at_call 50; refine (stuck_any _).mono ?_; rintro e w' ⟨rfl, rfl⟩)
    exact ⟨rfl, rfl, rfl⟩
theorem field_fn {b L cap : Nat} {A : Option Addr} (c : W.cell? ⟨b, 1, none⟩ = some (.slice A L cap)) (k : Int) (h0 : 0 ≤ k) (h255 : k ≤ 255) :
    (∀ (j : Nat) (g o : Nat) T x, k = (j : Int) + 1 → j < L → A = some ⟨g, o, none⟩ → L ≤ cap → W.cell? ⟨g, o + j, none⟩ = some (.iface T x) → Calls Try.prog 65 #[.iface 109 (.pointer (some ⟨b, 0, none⟩)), .int .i64 k] W fun e w' => e = .returned (.iface T x) ∧ W = w') ∧
    (¬ (1 ≤ k ∧ k ≤ L) → Calls Try.prog 65 #[.iface 109 (.pointer (some ⟨b, 0, none⟩)), .int .i64 k] W fun e w' => e = .panicked (stopV 4) ∧ W = w') := by
  have hw : IntKind.i64.wrap (k - 1) = k - 1 := by rw [IntKind.wrap_i64]; omega
  constructor
  · rintro j g o T x hkj hk rfl hc hcell
    obtain ⟨q, hq⟩ : ∃ q : Int, k - 1 = q := ⟨_, rfl⟩
    have hqj : q = (j : Int) := by omega
    subst hqj
    have hk0 : ¬ (j : Int) < 0 := by omega
    have hk1 : (0 : Int) ≤ (j : Int) := by omega
    have hk2 : ¬ (L : Int) ≤ (j : Int) := by omega
    have hk3 : (j : Int) < (L : Int) := by omega
    rw [hq] at hw
    have hw2 : IntKind.i64.wrap (k - 1) = (j : Int) := by rw [hq]; exact hw
    clear hkj h0 h255 hq hw
    go_enter Try.func65, Try.ntmps65
    go_wp2_with fail
    go_ret
    exact ⟨rfl, rfl⟩
  · intro hk
    by_cases hk0 : k < 1
    · have hq : k - 1 < 0 := by omega
      go_enter Try.func65, Try.ntmps65
      go_wp2_with (go_at_call 50; refine (stuck_any _).mono ?_; rintro e w' ⟨rfl, rfl⟩)
      exact ⟨rfl, rfl, rfl⟩
    · have hq : ¬ k - 1 < 0 := by omega
      have hq2 : (L : Int) ≤ k - 1 := by omega
      go_enter Try.func65, Try.ntmps65
      go_wp2_with (go_at_call 50; refine (stuck_any _).mono ?_; rintro e w' ⟨rfl, rfl⟩)
      exact ⟨rfl, rfl, rfl⟩
theorem field_any (hg : Good rb B p inp fuel s m W) {v : PV} {gv : Value} (hv : RepV rb m W v gv) {k : Int} (h0 : 0 ≤ k) (h255 : k ≤ 255) :
    Calls Try.prog 65 #[gv, .int .i64 k] W (FieldPost rb m W s (fieldF v k s)) := by
  obtain ⟨j, rfl⟩ : ∃ j : Nat, k = (j : Int) := ⟨k.toNat, by omega⟩
  cases hv with
  | int a => exact (field_none _ (.inl rfl) _ j).mono fun e w' ⟨h1, h2⟩ => .inr ⟨rfl, h1, h2⟩
  | ref h => exact (field_none _ (.inr rfl) _ j).mono fun e w' ⟨h1, h2⟩ => .inr ⟨rfl, h1, h2⟩
  | @blk tag kids b g cap F hb hgl hgm hl hp h8 hc hk =>
    have c1 := at_cell0 hb (i := 1) rfl
    simp only [List.getElem_toArray, List.getElem_cons_zero, List.getElem_cons_succ] at c1
    by_cases hj : j < kids.length
    · have hr := hk j hj
      obtain ⟨T, x, hF⟩ := hr.shape
      rw [hF] at hr
      refine ((field_blk c1 j).1 g T x hj rfl hl (by rw [hc j hj, hF])).mono fun e w' ⟨h1, h2⟩ => .inl ⟨kids[j], T, x, ?_, h1, hr, h2⟩
      have : (0 : Int) ≤ (j : Int) ∧ (j : Int) < (kids.length : Int) := by omega
      simp [fieldF, this, hj]
    · refine ((field_blk c1 j).2 hj).mono fun e w' ⟨h1, h2⟩ => .inr ⟨?_, h1, h2⟩
      have : ¬ ((0 : Int) ≤ (j : Int) ∧ (j : Int) < (kids.length : Int)) := by omega
      simp [fieldF, this, hj]
  | @fn i b h =>
    have hlen : i < s.made.length := by rw [← hg.falen]; exact (List.getElem?_eq_some_iff.1 h).1
    obtain ⟨b', A, cap, h1, h2, h3, h4, h5, h6⟩ := hg.fns i hlen
    rw [h] at h1; cases h1
    have c1 := at_cell0 h2 (i := 1) rfl
    simp only [List.getElem_toArray, List.getElem_cons_zero, List.getElem_cons_succ] at c1
    by_cases hj : (1 : Int) ≤ (j : Int) ∧ (j : Int) ≤ (s.made[i].2.length : Int)
    · obtain ⟨q, rfl⟩ : ∃ q, j = q + 1 := ⟨j - 1, by omega⟩
      have hq : q < s.made[i].2.length := by omega
      obtain ⟨g, o, F, rfl, hgl, hgm, hc, hr⟩ := h5 (by omega)
      have hrr := hr q hq
      obtain ⟨T, x, hF⟩ := hrr.shape
      rw [hF] at hrr
      refine ((field_fn c1 _ h0 h255).1 q g o T x (by simp) hq rfl h3 (by rw [hc q hq, hF])).mono fun e w' ⟨h1, h2⟩ => .inl ⟨s.made[i].2[q], T, x, ?_, h1, hrr, h2⟩
      unfold fieldF
      simp only [List.getElem?_eq_getElem hlen, Option.getD_some]
      rw [if_pos hj]
      simp [hq]
    · refine ((field_fn c1 _ h0 h255).2 hj).mono fun e w' ⟨h1, h2⟩ => .inr ⟨?_, h1, h2⟩
      unfold fieldF
      simp only [List.getElem?_eq_getElem hlen, Option.getD_some]
      rw [if_neg hj]
end
end Go.Proofs.Ytnobggabjpcbfaa

/-
  The flat evaluator: closures that know one another: what lies in memory while they are made.
-/
set_option linter.unusedVariables false
set_option linter.unusedSimpArgs false
namespace Go.Proofs.Ytnobggabjpcbfaa
open Go.RowKit

def Persist (w w' : World) : Prop := ∀ (b : Nat) (cs : Array Value) (T : TypeId) (fr : Nat × Nat), T = 111 ∨ T = 99 → w.heap[b]? = some (.cells cs T fr) → w'.heap[b]? = some (.cells cs T fr)
theorem Persist.trans {a b c : World} (h : Persist a b) (k : Persist b c) : Persist a c := fun i cs T fr hT hh => k i cs T fr hT (h i cs T fr hT hh)
theorem Persist.below {w w' : World} (h : Below w.heap.size w w') : Persist w w' := fun b cs T fr _ hh => (h.block b (Array.getElem?_eq_some_iff.1 hh).1).trans hh
theorem Persist.alloc (w : World) (o : Obj) : Persist w (w.alloc o) := Persist.below ((Below.refl w.heap.size w).alloc (Nat.le_refl _) o)
theorem Persist.grown {w w' : World} {base : Nat} {v : Value} {n : Nat} {xs : List Value} (ho : w.ownsRow base 109 1 v n xs) (hg : w.grownBy w' v.ownBlock) : Persist w w' := fun b cs T fr hT hh => by
  refine (hg.block b (Array.getElem?_eq_some_iff.1 hh).1 ?_).trans hh
  rcases ho.2 with ⟨rfl, _⟩ | ⟨g, cap, cur, rfl, _, hgg, _⟩
  · simp [Value.ownBlock]
  · simp only [Value.ownBlock, ne_eq, Option.some.injEq]
    rintro rfl
    have := hh.symm.trans hgg
    simp only [Option.some.injEq, Obj.cells.injEq] at this
    rcases hT with rfl | rfl
    · exact absurd this.2.1 (by decide)
    · exact absurd this.2.1 (by decide)

/-- the links that were made -/
inductive LinkIn (n0 : Nat) (w : World) (ks : List Int) (bs : List Nat) (ge : Value) : Nat → Value → Prop
  | zero : LinkIn n0 w ks bs ge 0 ge
  | succ {k : Nat} {gp : Value} {b f : Nat} (h : LinkIn n0 w ks bs ge k gp) (hlo : n0 ≤ b) (hf : bs[k]? = some f)
      (hb : w.heap[b]? = some (.cells #[.int .i64 (nth ks (3 * k)), .iface 109 (.pointer (some ⟨f, 0, none⟩)), gp] 99 (0, 0))) : LinkIn n0 w ks bs ge (k + 1) (.pointer (some ⟨b, 0, none⟩))
theorem LinkIn.persist {n0 : Nat} {w w' : World} {ks : List Int} {bs bs' : List Nat} {ge : Value} (hp : ∀ (b : Nat) (cs : Array Value) (fr : Nat × Nat), w.heap[b]? = some (.cells cs 99 fr) → w'.heap[b]? = some (.cells cs 99 fr)) (hbs : bs <+: bs') {k : Nat} {gp : Value} (h : LinkIn n0 w ks bs ge k gp) : LinkIn n0 w' ks bs' ge k gp := by
  induction h with
  | zero => exact .zero
  | succ _ hlo hf hb ih => exact .succ ih hlo (prefix_get hbs hf) (hp _ _ _ hb)
theorem LinkIn.shape {n0 : Nat} {w : World} {ks : List Int} {bs : List Nat} {ge : Value} (hge : ∃ p, ge = .pointer p) {k : Nat} {gp : Value} (h : LinkIn n0 w ks bs ge k gp) : ∃ p, gp = .pointer p := by
  cases h with
  | zero => exact hge
  | succ => exact ⟨_, rfl⟩

/-- closures that were made so far -/
structure FixIn (W0 wr : World) (ks : List Int) (ge : Value) (k : Nat) (hv : Nat → Value) (bs : List Nat) (v gp : Value) : Prop where
  below : Below W0.heap.size W0 wr
  len : bs.length = k
  lo : ∀ b ∈ bs, W0.heap.size ≤ b
  nodup : bs.Nodup
  fnb : ∀ j (h : j < bs.length), wr.heap[bs[j]]? = some (.cells #[.int .i64 (nth ks (3 * j + 1)), hv j] 111 (0, 0))
  row : wr.ownsRow W0.heap.size 109 1 v k (bs.map fun b => .pointer (some ⟨b, 0, none⟩))
  lk : LinkIn W0.heap.size wr ks bs ge k gp
section
variable {W0 wr : World} {ks : List Int} {ge : Value} {k : Nat} {hv : Nat → Value} {bs : List Nat} {v gp : Value}
theorem FixIn.start (W0 : World) (ks : List Int) (ge : Value) (hv : Nat → Value) : FixIn W0 W0 ks ge 0 hv [] (.slice none 0 0) ge :=
  ⟨Below.refl _ _, rfl, by simp, by simp, by simp, ⟨by simp, .inl ⟨rfl, rfl⟩⟩, .zero⟩
theorem FixIn.behind (h : FixIn W0 wr ks ge k hv bs v gp) {V : World} (hV : Below wr.heap.size wr V) : FixIn W0 V ks ge k hv bs v gp :=
  ⟨h.below.trans (hV.mono h.below.size), h.len, h.lo, h.nodup, fun j hj => (hV.block _ (Array.getElem?_eq_some_iff.1 (h.fnb j hj)).1).trans (h.fnb j hj),
    h.row.kept ⟨hV.os, hV.tape, hV.output, hV.size, fun i hi _ => hV.block i hi⟩ (row := none) (by cases v.ownBlock <;> simp),
    h.lk.persist (fun b cs fr hh => (hV.block b (Array.getElem?_eq_some_iff.1 hh).1).trans hh) (List.prefix_refl _)⟩
/-- one more: its block, the literal of 'append', the longer slice, the link -/
theorem FixIn.more (h : FixIn W0 wr ks ge k hv bs v gp) (hhv : hv k = .slice none 0 0) {o : Obj} {w1 : World} {v' : Value}
    (hown : w1.ownsRow W0.heap.size 109 1 v' (k + 1) ((bs.map fun b => Value.pointer (some ⟨b, 0, none⟩)) ++ [.pointer (some ⟨wr.heap.size, 0, none⟩)]))
    (hgrow : ((wr.alloc (.cells #[.int .i64 (nth ks (3 * k + 1)), .slice none 0 0] 111)).alloc o).grownBy w1 v.ownBlock) :
    FixIn W0 (w1.alloc (.cells #[.int .i64 (nth ks (3 * k)), .iface 109 (.pointer (some ⟨wr.heap.size, 0, none⟩)), gp] 99)) ks ge (k + 1) hv (bs ++ [wr.heap.size]) v' (.pointer (some ⟨w1.heap.size, 0, none⟩)) := by
  have hs := h.below.size
  have hb1 : Below W0.heap.size W0 ((wr.alloc (.cells #[.int .i64 (nth ks (3 * k + 1)), .slice none 0 0] 111)).alloc o) :=
    (h.below.alloc hs _).alloc (by rw [World.size_alloc]; exact Nat.le_trans hs (Nat.le_succ _)) _
  have hb2 : Below W0.heap.size W0 w1 := hb1.grown hgrow hb1.size (fun j hj => (h.row.lt j hj).1)
  have p1 : Persist wr ((wr.alloc (.cells #[.int .i64 (nth ks (3 * k + 1)), .slice none 0 0] 111)).alloc o) :=
    Persist.trans (Persist.alloc wr _) (Persist.alloc _ _)
  have hr1 := (h.row.alloc (.cells #[.int .i64 (nth ks (3 * k + 1)), .slice none 0 0] 111)).alloc o
  have p2 : Persist ((wr.alloc (.cells #[.int .i64 (nth ks (3 * k + 1)), .slice none 0 0] 111)).alloc o) w1 := Persist.grown hr1 hgrow
  have p3 := Persist.alloc w1 (.cells #[.int .i64 (nth ks (3 * k)), .iface 109 (.pointer (some ⟨wr.heap.size, 0, none⟩)), gp] 99)
  have hp := (p1.trans p2).trans p3
  have hfn : (w1.alloc (.cells #[.int .i64 (nth ks (3 * k)), .iface 109 (.pointer (some ⟨wr.heap.size, 0, none⟩)), gp] 99)).heap[wr.heap.size]? = some (.cells #[.int .i64 (nth ks (3 * k + 1)), .slice none 0 0] 111 (0, 0)) :=
    (p2.trans p3) _ _ _ _ (.inl rfl) ((Persist.alloc _ o) _ _ _ _ (.inl rfl) (World.alloc_heap_new wr _))
  refine ⟨hb2.alloc hb2.size _, by simp [h.len], ?_, ?_, ?_, ?_, ?_⟩
  · intro b hb
    rcases List.mem_append.1 hb with hb | hb
    · exact h.lo b hb
    · simp at hb; omega
  · rw [List.nodup_append]
    refine ⟨h.nodup, by simp, fun x hx y hy => ?_⟩
    obtain ⟨i, hi, rfl⟩ := List.getElem_of_mem hx
    have := (Array.getElem?_eq_some_iff.1 (h.fnb i hi)).1
    simp at hy; omega
  · intro j hj
    by_cases hjk : j < bs.length
    · rw [List.getElem_append_left hjk]
      exact hp _ _ _ _ (.inl rfl) (h.fnb j hjk)
    · have : j = k := by simp at hj; have := h.len; omega
      subst this
      have h' : (bs ++ [wr.heap.size])[j] = wr.heap.size := by rw [List.getElem_append_right (by have := h.len; omega)]; simp
      rw [h', hfn, hhv]
  · have := hown.alloc (.cells #[.int .i64 (nth ks (3 * k)), .iface 109 (.pointer (some ⟨wr.heap.size, 0, none⟩)), gp] 99)
    simpa using this
  · refine .succ (h.lk.persist (fun b cs fr hh => hp b cs _ fr (.inr rfl) hh) (List.prefix_append _ _)) hb2.size (f := wr.heap.size) ?_ (World.alloc_heap_new w1 _)
    rw [← h.len, List.getElem?_append_right (Nat.le_refl _)]; simp
/-- a closure gets what it holds -/
theorem FixIn.hold (h : FixIn W0 wr ks ge k hv bs v gp) {j : Nat} (hj : j < bs.length) (u : Value) :
    FixIn W0 (wr.setCell ⟨bs[j], 1, none⟩ u) ks ge k (fun i => if i = j then u else hv i) bs v gp := by
  have hlo := h.lo _ (List.getElem_mem hj)
  have hfj := h.fnb j hj
  refine ⟨h.below.setCell (p := ⟨bs[j], 1, none⟩) hlo _, h.len, h.lo, h.nodup, ?_, ?_, ?_⟩
  · intro i hi
    by_cases hij : i = j
    · subst hij
      rw [heap_set_self hfj]
      simp
    · have hne : bs[i] ≠ bs[j] := fun e => by
        have hp := List.pairwise_iff_getElem.1 h.nodup
        rcases Nat.lt_or_gt_of_ne hij with hlt | hgt
        · exact hp i j hi hj hlt e
        · exact hp j i hj hi hgt e.symm
      rw [heap_set_ne hne, h.fnb i hi]
      simp [hij]
  · refine h.row.kept (row := some bs[j]) ⟨rfl, rfl, rfl, by simp [World.setCell], fun i hi hne => heap_set_ne (fun e => hne (by rw [e])) _ _⟩ ?_
    rcases h.row.2 with ⟨rfl, _⟩ | ⟨g, cap, cur, rfl, _, hgg, _⟩
    · exact .inl rfl
    · refine .inr ?_
      simp only [Value.ownBlock, ne_eq, Option.some.injEq]
      rintro rfl
      have := hfj.symm.trans hgg
      simp only [Option.some.injEq, Obj.cells.injEq] at this
      exact absurd this.2.1 (by decide)
  · refine h.lk.persist (fun b cs fr hh => ?_) (List.prefix_refl _)
    refine (heap_set_ne ?_ _ _).trans hh
    rintro rfl
    have := hfj.symm.trans hh
    simp only [Option.some.injEq, Obj.cells.injEq] at this
    exact absurd this.2.1 (by decide)
end

section
variable {rb B : Nat} {p : FlatP} {inp : List Int} {fuel n : Nat} {s : FSt} {m : Mem} {W W0 W' : World}
/-- what is known behind it -/
theorem LinkIn.env {ks : List Int} {bs : List Nat} {ge : Value} {k : Nat} {gp : Value} (h : LinkIn W0.heap.size W' ks bs ge k gp) (hm : ∀ k, W0.heap.size ≤ k → ¬ m.mut rb k) (hk : 3 * k ≤ ks.length) {m' : Mem} (hm' : ∀ k, m'.mut rb k ↔ m.mut rb k) (hfa : ∀ j b, bs[j]? = some b → m'.fa[s.made.length + j]? = some b)
    {e : PEnv} (he : EnvIn rb m' W' e ge) : EnvIn rb m' W' (groupEnv (ks.take (3 * k)) s.made.length e) gp := by
  induction h with
  | zero => simpa [groupEnv] using he
  | @succ k gp b f h hlo hf hb ih =>
    rw [groupEnv_take ks _ _ (by omega)]
    exact .cons ⟨hb, fun hx => hm b hlo ((hm' b).1 hx)⟩ (.fn (hfa _ _ hf)) (ih (by omega))
theorem Good.groupEnv_ (hg : Good rb B p inp fuel s m W) (hW0 : Below W.heap.size W W0) {ks : List Int} {q : Nat} (hks : ks.length = 3 * q) {e : PEnv} {ge : Value} (he : EnvIn rb m W e ge) {hv : Nat → Value} {bs : List Nat} {v gp : Value} (h : FixIn W0 W' ks ge q hv bs v gp) :
    Evo rb m { m with fa := m.fa ++ bs } W W' ∧ EnvIn rb { m with fa := m.fa ++ bs } W' (groupEnv ks s.made.length e) gp := by
  have hsz := hW0.size
  have hbW : Below W.heap.size W W' := hW0.trans (h.below.mono hsz)
  have hk : Evo rb m { m with fa := m.fa ++ bs } W W' := (Evo.below hbW).more (List.prefix_append _ _) (List.prefix_refl _) (fun k hk => .inl hk)
  refine ⟨hk, ?_⟩
  have := h.lk.env (s := s) (m := m) (m' := { m with fa := m.fa ++ bs }) (rb := rb) (fun k hk hm => by have := hg.mutLt hm; omega) (by omega) (fun k => Iff.rfl) (fun j f hf => ?_) (he.evo hk)
  · rwa [List.take_of_length_le (by omega)] at this
  · show (m.fa ++ bs)[s.made.length + j]? = _
    rw [← hg.falen, List.getElem?_append_right (by omega)]
    simpa using hf
/-- what a closure of a group holds: a part of the row -/
def HeldAt (g off h : Nat) (v : Value) : Prop := ∃ A c, v = .slice A h c ∧ h ≤ c ∧ (0 < h → A = some ⟨g, off, none⟩)
theorem Good.grouped (hg : Good rb B p inp fuel s m W) (hW0 : Below W.heap.size W W0) {ks : List Int} {na q : Nat} (hks : GroupOk p.funs.length ks na q) {e : PEnv} {ge : Value} (he : EnvIn rb m W e ge) {hv : Nat → Value} {bs : List Nat} {v gp : Value} (h : FixIn W0 W' ks ge q hv bs v gp)
    {l : List PV} {g : Nat} (hl : l.length = na) (hgl : 0 < l.length → g < W'.heap.size ∧ ¬ m.mut rb g) {F : Nat → Value} (hc : ∀ j, j < l.length → W'.cell? ⟨g, j, none⟩ = some (F j)) (hr : ∀ j (h : j < l.length), RepV rb { m with fa := m.fa ++ bs } W' l[j] (F j))
    (hheld : ∀ j, j < q → HeldAt g (offN ks j) (nth ks (3 * j + 2)).toNat (hv j)) :
    Good rb B p inp fuel { s with made := s.made ++ groupMade ks l } { m with fa := m.fa ++ bs } W' ∧ Evo rb m { m with fa := m.fa ++ bs } W W' ∧ EnvIn rb { m with fa := m.fa ++ bs } W' (groupEnv ks s.made.length e) gp := by
  obtain ⟨hk, henv⟩ := hg.groupEnv_ hW0 hks.len he h
  have hsz := hW0.size
  have hbW : Below W.heap.size W W' := hW0.trans (h.below.mono hsz)
  have hgW := hg.below hbW
  have hlen : (groupMade ks l).length = q := groupMade_length q ks l hks.len
  refine ⟨⟨hgW.Bs, hg.rbB, hg.left, hg.fuelB, hg.bnd, hgW.run, hgW.out, ?_, ?_, hg.calen, ?_, hg.nodup, hg.rbca, hg.rbo, hg.oca, hg.caB⟩, hk, henv⟩
  · show (m.fa ++ bs).length = (s.made ++ _).length
    simp [hg.falen, hlen, h.len]
  · intro i hi
    by_cases hi' : i < s.made.length
    · simp only [List.getElem_append_left hi']
      exact hg.fnsEvo hk i hi'
    · have hj : i - s.made.length < q := by simp [hlen] at hi; omega
      have hjb : i - s.made.length < bs.length := by rw [h.len]; exact hj
      have hget := groupMade_get q ks l hks.len (i - s.made.length) hj
      have hget' : (s.made ++ groupMade ks l)[i] = (nth ks (3 * (i - s.made.length) + 1), (l.drop (offN ks (i - s.made.length))).take (nth ks (3 * (i - s.made.length) + 2)).toNat) := by
        rw [List.getElem_append_right (by omega)]
        rw [List.getElem?_eq_getElem (by omega)] at hget
        exact Option.some.inj hget
      obtain ⟨A, c, hv1, hv2, hv3⟩ := hheld _ hj
      have hoff : offN ks (i - s.made.length) + (nth ks (3 * (i - s.made.length) + 2)).toNat ≤ l.length := by
        have := offN_mono ks (show i - s.made.length + 1 ≤ q by omega)
        rw [hks.sum] at this
        rw [hl]
        exact this
      obtain ⟨h0, h255⟩ := hks.h _ hj
      obtain ⟨f0, f1⟩ := hks.f _ hj
      have hfb := h.fnb _ hjb
      generalize offN ks (i - s.made.length) = off at *
      generalize hH : (nth ks (3 * (i - s.made.length) + 2)).toNat = hh at *
      have hll : ((l.drop off).take hh).length = hh := by simp; omega
      simp only [hget', hll]
      refine ⟨bs[i - s.made.length], A, c, ?_, ⟨?_, ?_⟩, hv2, by omega, fun h00 => ?_, f0, f1⟩
      · show (m.fa ++ bs)[i]? = _
        rw [List.getElem?_append_right (by rw [hg.falen]; omega), hg.falen, List.getElem?_eq_getElem hjb]
      · rw [hfb, hv1]
      · intro hm
        have := hg.mutLt (k := bs[i - s.made.length]) hm
        have := h.lo _ (List.getElem_mem hjb)
        omega
      · have hp : 0 < hh := by rw [hll] at h00; exact h00
        obtain ⟨g1, g2⟩ := hgl (by omega)
        refine ⟨g, off, fun j => F (off + j), hv3 hp, g1, g2, fun j hj => hc _ (by rw [hll] at hj; omega), fun j hj => ?_⟩
        have := hr (off + j) (by rw [hll] at hj; omega)
        simpa using this
  · intro i hi
    obtain ⟨b', gv, h1, h2, h3⟩ := hg.cells i hi
    exact ⟨b', gv, h1, (hbW.block b' (Array.getElem?_eq_some_iff.1 h2).1).trans h2, h3.evo hk⟩
end
end Go.Proofs.Ytnobggabjpcbfaa

/-
  The flat evaluator: closures that know one another.
-/
set_option linter.unusedVariables false
set_option linter.unusedSimpArgs false
namespace Go.Proofs.Ytnobggabjpcbfaa
open Go.RowKit

theorem infoClos : (Try.prog.info? 109).map (fun i => (i.zero, i.size, i.bytes)) = some (some (.pointer none), 1, 8) := by kernel_rfl
theorem undClos : Try.prog.underlying 108 = some (.slice 109) := by kernel_rfl
section
variable {rb B : Nat} {p : FlatP} {inp : List Int} {fuel n : Nat} {s : FSt} {m : Mem} {W : World}
theorem RepV.setClos {b : Nat} {f : Int} {h : Value} (hb : W.heap[b]? = some (.cells #[.int .i64 f, h] 111 (0, 0))) (u : Value) {v : PV} {g : Value} (hr : RepV rb m W v g) : RepV rb m (W.setCell ⟨b, 1, none⟩ u) v g := by
  induction hr with
  | int n => exact .int n
  | @blk tag kids bb g cap F hbb hg hgm hl hp h8 hc hk ih =>
    have h1 : bb ≠ b := by
      rintro rfl
      have := hbb.1.symm.trans hb
      simp only [Option.some.injEq, Obj.cells.injEq] at this
      exact absurd this.2.1 (by decide)
    have h2 : g ≠ b := by
      rintro rfl
      obtain ⟨U, y, hF⟩ := (hk 0 hp).shape
      have h0 := hc 0 hp
      rw [hF] at h0
      simp [World.cell?, hb] at h0
    exact .blk ⟨(heap_set_ne h1 _ _).trans hbb.1, hbb.2⟩ (by simpa [World.setCell] using hg) hgm hl hp h8 (fun j hj => (cell_of_heap (heap_set_ne h2 _ _) j).trans (hc j hj)) ih
  | fn h => exact .fn h
  | ref h => exact .ref h
theorem RowZ.setClos {b : Nat} {f : Int} {h : Value} (hb : W.heap[b]? = some (.cells #[.int .i64 f, h] 111 (0, 0))) (u : Value) {l : List PV} {A : Option Addr} (hr : RowZ rb m W l A) : RowZ rb m (W.setCell ⟨b, 1, none⟩ u) l A := fun h0 => by
  obtain ⟨g, F, h1, h2, h3, h4, h5⟩ := hr h0
  have hne : g ≠ b := by
    rintro rfl
    obtain ⟨U, y, hF⟩ := (h5 0 h0).shape
    have h6 := h4 0 h0
    rw [hF] at h6
    simp [World.cell?, hb] at h6
  exact ⟨g, F, h1, by simpa [World.setCell] using h2, h3, fun j hj => (cell_of_heap (heap_set_ne hne _ _) j).trans (h4 j hj), fun j hj => (h5 j hj).setClos hb u⟩

def GroupPost (rb B : Nat) (p : FlatP) (inp : List Int) (fuel : Nat) (s : FSt) (m : Mem) (W : World) (ks : List Int) (ats : List Atm) (e : PEnv) (en : Ending) (W' : World) : Prop :=
  (∃ l m' pp, atomsP (groupEnv ks s.made.length e) ats = some l ∧ en = .returned (.pointer pp) ∧ Evo rb m m' W W' ∧ Good rb B p inp fuel { s with made := s.made ++ groupMade ks l } m' W' ∧ EnvIn rb m' W' (groupEnv ks s.made.length e) (.pointer pp)) ∨
    (atomsP (groupEnv ks s.made.length e) ats = none ∧ en = .panicked (stopV 4) ∧ Below W.heap.size W W')
/-- what stands while closures get what they hold -/
structure HoldIn (rb : Nat) (m : Mem) (W0 wr : World) (ks : List Int) (ge : Value) (q : Nat) (bs : List Nat) (lv gp : Value) (l : List PV) (A0 : Option Addr) (g : Nat) (j : Nat) (Aj : Option Addr) (L c : Nat) : Prop where
  fix : ∃ hv, FixIn W0 wr ks ge q hv bs lv gp ∧ ∀ i, i < j → HeldAt g (offN ks i) (nth ks (3 * i + 2)).toNat (hv i)
  row : RowZ rb m wr l A0
  eL : L + offN ks j = l.length
  ec : L ≤ c
  eA : 0 < L → Aj = some ⟨g, offN ks j, none⟩
theorem HoldIn.next {W0 wr : World} {ks : List Int} {ge : Value} {q : Nat} {bs : List Nat} {lv gp : Value} {l : List PV} {A0 : Option Addr} {g j : Nat} {Aj : Option Addr} {L c : Nat} (h : HoldIn rb m W0 wr ks ge q bs lv gp l A0 g j Aj L c) (hj : j < bs.length) {h2 : Nat} (hh : (nth ks (3 * j + 2)).toNat = h2) (hl : h2 ≤ L) {X Y : Option Addr} {c2 : Nat} (hX : 0 < h2 → X = some ⟨g, offN ks j, none⟩) (hY : 0 < L - h2 → Y = some ⟨g, offN ks j + h2, none⟩) (hc : L - h2 ≤ c2) :
    HoldIn rb m W0 (wr.setCell ⟨bs[j], 1, none⟩ (.slice X h2 h2)) ks ge q bs lv gp l A0 g (j + 1) Y (L - h2) c2 := by
  obtain ⟨hv, h1, h3⟩ := h.fix
  have hfb := h1.fnb j hj
  refine ⟨⟨_, h1.hold hj (.slice X h2 h2), fun i hi => ?_⟩, h.row.setClos hfb _, ?_, hc, ?_⟩
  · by_cases hij : i = j
    · subst hij
      rw [if_pos rfl, hh]
      exact ⟨X, h2, rfl, Nat.le_refl _, hX⟩
    · rw [if_neg hij]
      exact h3 i (by omega)
  · have := h.eL
    unfold offN
    rw [hh]; omega
  · unfold offN
    rw [hh]; exact hY
theorem HoldIn.drew {W0 wr : World} {ks : List Int} {ge : Value} {q : Nat} {bs : List Nat} {lv gp : Value} {l : List PV} {A0 : Option Addr} {g j : Nat} {Aj : Option Addr} {L c : Nat} (h : HoldIn rb m W0 wr ks ge q bs lv gp l A0 g j Aj L c) : HoldIn rb m W0 wr.drew ks ge q bs lv gp l A0 g j Aj L c := by
  obtain ⟨hv, h1, h3⟩ := h.fix
  exact ⟨⟨hv, h1.behind (Below.refl _ _).drew, h3⟩, h.row.evo (Evo.refl _ _ _).drew, h.eL, h.ec, h.eA⟩
/-- the way out -/
theorem HoldIn.end_ (hg : Good rb B p inp fuel s m W) {W0 wr : World} (hW0 : Below W.heap.size W W0) {ks : List Int} {ats : List Atm} {ge : Value} {q : Nat} (hks : GroupOk p.funs.length ks ats.length q) {e : PEnv} (he : EnvIn rb m W e ge) {bs : List Nat} {lv : Value} {gp : Option Addr} {l : List PV} {A0 : Option Addr} {g : Nat} (hgA : 0 < l.length → A0 = some ⟨g, 0, none⟩) {Aj : Option Addr} {L c : Nat}
    (h : HoldIn rb { m with fa := m.fa ++ bs } W0 wr ks ge q bs lv (.pointer gp) l A0 g q Aj L c) (hl : l.length = ats.length) (ho : atomsP (groupEnv ks s.made.length e) ats = some l) : GroupPost rb B p inp fuel s m W ks ats e (.returned (.pointer gp)) wr := by
  obtain ⟨hv, h1, h3⟩ := h.fix
  have key : ∃ F : Nat → Value, (0 < l.length → g < wr.heap.size ∧ ¬ m.mut rb g) ∧ (∀ j, j < l.length → wr.cell? ⟨g, j, none⟩ = some (F j)) ∧ (∀ j (h : j < l.length), RepV rb { m with fa := m.fa ++ bs } wr l[j] (F j)) := by
    by_cases h0 : 0 < l.length
    · obtain ⟨g', F, k1, k2, k3, k4, k5⟩ := h.row h0
      rw [hgA h0] at k1
      cases k1
      exact ⟨F, fun _ => ⟨k2, k3⟩, k4, k5⟩
    · exact ⟨fun _ => .nilIface, fun h => absurd h h0, fun j hj => by omega, fun j hj => by omega⟩
  obtain ⟨F, k1, k2, k3⟩ := key
  obtain ⟨g1, g2, g3⟩ := hg.grouped hW0 hks he h1 hl k1 k2 k3 h3
  exact .inl ⟨l, _, gp, ho, rfl, g2, g1, g3⟩

set_option maxRecDepth 100000 in
set_option maxHeartbeats 4000000 in
theorem group_any (hg : Good rb B p inp fuel s m W) {ks : List Int} {ats : List Atm} {q : Nat} (hks : GroupOk p.funs.length ks ats.length q) {Aa Ak Al : Option Addr} {ca ck lb cb : Nat} (ha : AtomsIn W.heap.size W Aa ats) (hk : IntsIn W.heap.size W Ak ks) (hkc : ks.length ≤ ck) {e : PEnv} {ge : Value} (he : EnvIn rb m W e ge) (kk nn : Int) :
    Calls Try.prog 52 #[.agg #[.int .i64 kk, .int .i64 nn, .slice Aa ats.length ca, .slice Ak ks.length ck, .slice Al lb cb], ge] W (GroupPost rb B p inp fuel s m W ks ats e) := by
  obtain ⟨pk, rfl⟩ := he.shape
  have hlen := hks.len
  have hq1 := hks.q1
  obtain ⟨bk, ok, rfl, hbk, hkc2⟩ := hk.at_ (by omega)
  have hlen64 : q ≤ 10000000000000 := by have := hk.1; omega
  obtain ⟨W0, hW0⟩ : ∃ W0, W.alloc (.cells #[.int .i64 kk, .int .i64 nn, .slice Aa ats.length ca, .slice (some ⟨bk, ok, none⟩) ks.length ck, .slice Al lb cb] 52) = W0 := ⟨_, rfl⟩
  have hb0 : Below W.heap.size W W0 := by rw [← hW0]; exact (Below.refl _ _).alloc (Nat.le_refl _) _
  have hsz0 : W0.heap.size = W.heap.size + 1 := by rw [← hW0]; simp
  have hc2 : W0.cell? ⟨W.heap.size, 2, none⟩ = some (.slice Aa ats.length ca) := by rw [← hW0, World.cell?_alloc_at _ _ _ _ rfl]; rfl
  have hc3 : W0.cell? ⟨W.heap.size, 3, none⟩ = some (.slice (some ⟨bk, ok, none⟩) ks.length ck) := by rw [← hW0, World.cell?_alloc_at _ _ _ _ rfl]; rfl
  have HR := Lib.hid (fun (V : World) (hV : Below W0.heap.size W0 V) =>
    (show V.cell? ⟨W.heap.size, 2, none⟩ = some (.slice Aa ats.length ca) ∧ V.cell? ⟨W.heap.size, 3, none⟩ = some (.slice (some ⟨bk, ok, none⟩) (3 * q) ck) ∧ ∀ k, k < 3 * q → V.cell? ⟨bk, ok + k, none⟩ = some (.int .i64 (nth ks k)) from
      have hbb : Below W.heap.size W V := hb0.trans (hV.mono (by omega))
      ⟨(hV.cell (p := ⟨_, _, none⟩) (by show W.heap.size < _; omega)).trans hc2, by rw [← hlen]; exact (hV.cell (p := ⟨_, _, none⟩) (by show W.heap.size < _; omega)).trans hc3, fun k hk => (hbb.cell (p := ⟨_, _, none⟩) hbk).trans (hkc2 k (by omega))⟩))
  -- what atoms are, closures being known
  have HA := Lib.hid (fun (V : World) (bs : List Nat) (lv gp : Value) (h : FixIn W0 V ks (.pointer pk) q (fun _ => .slice none 0 0) bs lv gp) =>
    (show Calls Try.prog 64 #[gp, .slice Aa ats.length ca] V (AtomsPost rb { m with fa := m.fa ++ bs } V (atomsP (groupEnv ks s.made.length e) ats)) from by
      obtain ⟨k1, k2⟩ := hg.groupEnv_ hb0 hlen he h
      have hsz := Nat.le_trans hb0.size h.below.size
      have hWV : Below W.heap.size W V := hb0.trans (h.below.mono hb0.size)
      exact atoms_any (m := { m with fa := m.fa ++ bs }) (fun k hk => Nat.lt_of_lt_of_le (hg.mutLt hk) hsz) k2 ((ha.below hWV).mono hsz)))
  have HEND := Lib.hid (fun (wr : World) (bs : List Nat) (lv : Value) (gp : Option Addr) (l : List PV) (A0 : Option Addr) (g : Nat) (hgA : 0 < l.length → A0 = some ⟨g, 0, none⟩) (Aj : Option Addr) (L c : Nat) (h : HoldIn rb { m with fa := m.fa ++ bs } W0 wr ks (.pointer pk) q bs lv (.pointer gp) l A0 g q Aj L c) (ho : atomsP (groupEnv ks s.made.length e) ats = some l) =>
    (show GroupPost rb B p inp fuel s m W ks ats e (.returned (.pointer gp)) wr from HoldIn.end_ hg hb0 hks he hgA h (atomsP_len _ _ ho) ho))
  have HSUM := Lib.hid (fun (l : List PV) (ho : atomsP (groupEnv ks s.made.length e) ats = some l) => (show offN ks q = l.length from by rw [hks.sum, atomsP_len _ _ ho]))
  have HST := Lib.hid (fun (V : World) (hV : Below W.heap.size W V) (ho : atomsP (groupEnv ks s.made.length e) ats = none) => (show GroupPost rb B p inp fuel s m W ks ats e (.panicked (stopV 4)) V from .inr ⟨ho, rfl, hV⟩))
  have HH := Lib.hid hks.h
  have HB0 := Lib.hid hb0
  have HSZ := Lib.hid (show W.heap.size < W0.heap.size by omega)
  obtain ⟨i0, hinf, hz0, hz1, hz2⟩ := info_parts infoClos
  obtain ⟨AO, hAO⟩ : ∃ o, atomsP (groupEnv ks s.made.length e) ats = o := ⟨_, rfl⟩
  rw [hAO] at HA
  have HAO := Lib.hid hAO
  rw [hlen] at hW0 ⊢
  clear hc2 hc3 hkc2 hks hg he hb0 hsz0 ha hk hAO
  rw [hlen] at hkc
  clear hlen
  go_enter Try.func52, Try.ntmps52
  go_wp2_with fail
  go_loopw [6, 5, 1] (fun i l kn wr => ∃ (k : Nat) (bs : List Nat), k ≤ q ∧ i = .int .i64 (3 * (k : Int)) ∧ Hid (FixIn W0 wr ks (.pointer pk) k (fun _ => .slice none 0 0) bs l kn)) (fun i _ _ _ => 3 * q + 3 - (intOf i).toNat)
  case atStart => exact ⟨0, [], by omega, rfl, Lib.hid (FixIn.start _ _ _ _)⟩
  case round =>
    obtain ⟨k, bs, hk, rfl, HF⟩ := hrel
    by_cases hlt : k < q
    · obtain ⟨r2, r3, r4⟩ := HR.out wr HF.out.below
      have r5 := r4 (3 * k) (by omega)
      have r6 := r4 (3 * k + 1) (by omega)
      obtain ⟨kp, rfl⟩ := HF.out.lk.shape ⟨_, rfl⟩
      have hlt' : 3 * (k : Int) + 2 < 3 * (q : Int) := by omega
      have hw1 : IntKind.i64.wrap (3 * (k : Int) + 1) = 3 * (k : Int) + 1 := by rw [IntKind.wrap_i64]; omega
      have hw2 : IntKind.i64.wrap (3 * (k : Int) + 2) = 3 * (k : Int) + 2 := by rw [IntKind.wrap_i64]; omega
      have hw3 : IntKind.i64.wrap (3 * (k : Int) + 3) = 3 * (k : Int) + 3 := by rw [IntKind.wrap_i64]; omega
      have hge : (0 : Int) ≤ 3 * (k : Int) + 1 := by omega
      have hge2 : (0 : Int) ≤ 3 * (k : Int) := by omega
      have hlt3 : 3 * (k : Int) < 3 * (q : Int) := by omega
      have hlt4 : 3 * (k : Int) + 1 < 3 * (q : Int) := by omega
      have hn2 : (3 * (k : Int)).toNat = 3 * k := by omega
      have hn1 : (3 * (k : Int) + 1).toNat = 3 * k + 1 := by omega
      have hml : k + 1 ≤ maxLen := by unfold maxLen; omega
      have HROW := Lib.hid (show ((wr.alloc (.cells #[.int .i64 (nth ks (3 * k + 1)), .slice none 0 0] 111)).alloc (.cells #[.pointer (some ⟨wr.heap.size, 0, none⟩)] 109)).ownsRow W0.heap.size 109 1 u5 k (bs.map fun b => .pointer (some ⟨b, 0, none⟩)) from (HF.out.row.alloc _).alloc _)
      have HNEW := Lib.hid (show ∀ j u, [Value.pointer (some ⟨wr.heap.size, 0, none⟩)][j]? = some u → ((wr.alloc (.cells #[.int .i64 (nth ks (3 * k + 1)), .slice none 0 0] 111)).alloc (.cells #[.pointer (some ⟨wr.heap.size, 0, none⟩)] 109)).cell? ((⟨wr.heap.size + 1, 0, none⟩ : Addr).add j) = some u from by
        have := cell_one_new (wr.alloc (.cells #[.int .i64 (nth ks (3 * k + 1)), .slice none 0 0] 111)) (.pointer (some ⟨wr.heap.size, 0, none⟩)) 109
        rw [World.size_alloc] at this
        exact this)
      have hwsz := HF.out.below.size
      have hszz : W0.heap.size ≤ ((wr.alloc (.cells #[.int .i64 (nth ks (3 * k + 1)), .slice none 0 0] 111)).alloc (.cells #[.pointer (some ⟨wr.heap.size, 0, none⟩)] 109)).heap.size := by rw [World.size_alloc, World.size_alloc]; omega
      have HZ := Lib.hid (fun (w1 : World) (hgrow : ((wr.alloc (.cells #[.int .i64 (nth ks (3 * k + 1)), .slice none 0 0] 111)).alloc (.cells #[.pointer (some ⟨wr.heap.size, 0, none⟩)] 109)).grownBy w1 u5.ownBlock) =>
        have hb1 : Below W0.heap.size W0 w1 := (HF.out.below.trans ((below_two wr _ _).mono hwsz)).grown hgrow hszz (fun j hj => (HF.out.row.lt j hj).1)
        And.intro hb1 (HR.out w1 hb1))
      go_wp2_with (at_builtin; refine wpList_append_own _ rfl _ _ 108 rfl W0.heap.size 109 i0 (.pointer none) 1 8 undClos hinf hz0 hz1 hz2 rfl (by decide) _ _ _ rfl HROW.out ⟨wr.heap.size + 1, 0, none⟩ 1 1 [.pointer (some ⟨wr.heap.size, 0, none⟩)] rfl rfl HNEW.out (by simp [Value.oneCell']) hml (by omega) hszz ?_; intro v' w1 hown' hgrow _; obtain ⟨hb1, z2, z3, z4⟩ := HZ.out w1 hgrow; have z5 := z4 (3 * k) (by omega); clear z4)
      have hgrow' := hgrow
      change World.grownBy _ w1 u5.ownBlock at hgrow'
      have HM := Lib.hid (HF.out.more rfl hown' hgrow')
      clear hgrow hgrow' hown' r4
      go_roundw
      case rel => exact ⟨k + 1, bs ++ [wr.heap.size], by omega, by go_num, HM⟩
      case measure => simp [intOf]; omega
    · have hkq : k = q := by omega
      subst hkq
      obtain ⟨r2, r3, r4⟩ := HR.out wr HF.out.below
      clear r4
      have hlt' : ¬ 3 * (k : Int) + 2 < 3 * (k : Int) := by omega
      have hw2 : IntKind.i64.wrap (3 * (k : Int) + 2) = 3 * (k : Int) + 2 := by rw [IntKind.wrap_i64]; omega
      obtain ⟨kp, rfl⟩ := HF.out.lk.shape ⟨_, rfl⟩
      obtain ⟨gg, cap, rfl⟩ : ∃ g cap, u5 = .slice (some ⟨g, 0, none⟩) k cap := by
        rcases HF.out.row.2 with ⟨_, h0⟩ | ⟨g, cap, cur, h, _⟩
        · exact absurd h0 (by omega)
        · exact ⟨g, cap, h⟩
      have hcapk : k ≤ cap := by
        rcases HF.out.row.2 with ⟨h0, _⟩ | ⟨g, cap', cur, h, _, _, hn, _⟩
        · cases h0
        · cases h; exact hn
      have HK := Lib.hid hk
      clear hk
      have HCA := Lib.hid (HA.out wr bs _ _ HF.out)
      have HWR := Lib.hid (show Below W.heap.size W wr from HB0.out.trans (HF.out.below.mono HB0.out.size))
      go_wp2_with (go_at_call 64; refine HCA.out.mono ?_; rintro en w' (⟨l, A0, c0, hv, rfl, hlc, hrow, hw⟩ | ⟨hv, rfl, hw⟩); rotate_left; exact ⟨rfl, HST.out _ (HWR.out.trans (hw.mono HWR.out.size)) (HAO.out.trans hv)⟩)
      have HSU := Lib.hid (HSUM.out l (HAO.out.trans hv))
      obtain ⟨g, hgA⟩ : ∃ g, 0 < l.length → A0 = some ⟨g, 0, none⟩ := by
        by_cases h0 : 0 < l.length
        · obtain ⟨g, F, h1, _⟩ := hrow h0
          exact ⟨g, fun _ => h1⟩
        · exact ⟨0, fun h => absurd h h0⟩
      have HHO := Lib.hid (show HoldIn rb { m with fa := m.fa ++ bs } W0 w' ks (.pointer pk) k bs (.slice (some ⟨gg, 0, none⟩) k cap) (.pointer kp) l A0 g 0 A0 l.length c0 from
        ⟨⟨_, HF.out.behind hw, fun i hi => by omega⟩, hrow, by simp [offN], hlc, fun h => by rw [hgA h]; rfl⟩)
      have HFIN := Lib.hid (fun (wr : World) (Aj : Option Addr) (L c : Nat) (h : HoldIn rb { m with fa := m.fa ++ bs } W0 wr ks (.pointer pk) k bs (.slice (some ⟨gg, 0, none⟩) k cap) (.pointer kp) l A0 g k Aj L c) => HEND.out wr bs _ kp l A0 g hgA Aj L c h (HAO.out.trans hv))
      obtain ⟨m1, hm1⟩ : ∃ m1, m1 = { m with fa := m.fa ++ bs } := ⟨_, rfl⟩
      rw [← hm1] at HHO HFIN
      clear hrow hw hv hgA hlc HEND HST HSUM HCA HA hm1
      go_loopw [48, 8] (fun i av wr => ∃ (j : Nat) (Aj : Option Addr) (L c : Nat), j ≤ k ∧ i = .int .i64 (j : Int) ∧ av = .slice Aj L c ∧ Hid (HoldIn rb m1 W0 wr ks (.pointer pk) k bs (.slice (some ⟨gg, 0, none⟩) k cap) (.pointer kp) l A0 g j Aj L c)) (fun i _ _ => k + 1 - (intOf i).toNat)
      case atStart => exact ⟨0, A0, l.length, c0, by omega, rfl, rfl, HHO⟩
      case round =>
        obtain ⟨wr2, rfl⟩ : ∃ wo, wo = wr := ⟨_, rfl⟩
        obtain ⟨j, Aj, L, c, hj, rfl, rfl, HO⟩ := hrel
        by_cases hlt2 : j < k
        · obtain ⟨hv, hF, -⟩ := HO.out.fix
          have hjb : j < bs.length := by rw [hF.len]; exact hlt2
          obtain ⟨-, r3, r4⟩ := HR.out wr2 hF.below
          have r5 := r4 (3 * j + 2) (by omega)
          clear r4
          have hcell : wr2.cell? ⟨gg, j, none⟩ = some (.pointer (some ⟨bs[j], 0, none⟩)) := by
            have := World.ownsRow.cells hF.row (g := gg) rfl j (.pointer (some ⟨bs[j], 0, none⟩)) (by simp [List.getElem?_eq_getElem hjb])
            have ha : (⟨gg, 0, none⟩ : Addr).add j = ⟨gg, j, none⟩ := by unfold Addr.add; split <;> simp_all
            rwa [ha] at this
          have hfj := hF.fnb j hjb
          have hc1 : wr2.cell? ⟨bs[j], 1, none⟩ = some (hv j) := by simp [World.cell?, hfj]
          have hz1' : wr2.frozen? ⟨bs[j], 1, none⟩ = false := by simp [World.frozen?, hfj]
          obtain ⟨h2, hh2⟩ : ∃ h2 : Nat, nth ks (3 * j + 2) = (h2 : Int) := ⟨(nth ks (3 * j + 2)).toNat, by have := (HH.out j hlt2).1; omega⟩
          have h255 : h2 ≤ 255 := by have := (HH.out j hlt2).2; omega
          have hle : h2 ≤ L := by
            have h1 := HO.out.eL
            have h3 := offN_mono ks (show j + 1 ≤ k by omega)
            rw [HSU.out] at h3
            unfold offN at h3
            omega
          have hLc := HO.out.ec
          have HA1 := Lib.hid HO.out.eA
          have HN := Lib.hid (fun (X Y : Option Addr) (c2 : Nat) => HO.out.next hjb (h2 := h2) (by omega) hle (X := X) (Y := Y) (c2 := c2))
          rw [hh2] at r5
          generalize bs[j] = bj at *
          generalize hv j = hvj at *
          clear hF hfj
          have hj0 : (0 : Int) ≤ (j : Int) := by omega
          have hjk : (j : Int) < (k : Int) := by omega
          have hkc2 : (k : Int) ≤ (cap : Int) := by omega
          have w1 : IntKind.i64.wrap (3 * (j : Int)) = 3 * (j : Int) := by rw [IntKind.wrap_i64]; omega
          have w2 : IntKind.i64.wrap (3 * (j : Int) + 2) = 3 * (j : Int) + 2 := by rw [IntKind.wrap_i64]; omega
          have w3 : (0 : Int) ≤ 3 * (j : Int) + 2 := by omega
          have w4 : 3 * (j : Int) + 2 < 3 * (k : Int) := by omega
          have w5 : (3 * (j : Int) + 2).toNat = 3 * j + 2 := by omega
          have x0 : (0 : Int) ≤ (h2 : Int) := by omega
          have x1 : (h2 : Int) ≤ (c : Int) := by omega
          have x2 : (h2 : Int) ≤ (L : Int) := by omega
          clear HO
          go_wp2_with fail
          go_region
          all_goals
            have HN2 := Lib.hid ((HN.out Aj (if c = h2 then Aj else Option.map (fun x => x.add h2) Aj) (c - h2) (fun h => HA1.out (by omega)) (fun h => by
              rw [if_neg (by omega), HA1.out (by omega)]
              simp [Addr.add]) (by omega)).drew)
            generalize (if c = h2 then Aj else Option.map (fun x => x.add h2) Aj) = Y at *
            generalize (wr2.setCell ⟨bj, 1, none⟩ (.slice Aj h2 h2)).drew = V at *
            generalize L - h2 = L2 at *
            generalize c - h2 = c2 at *
            clear HN HFIN HHO HA1 hz1' hc1 hcell r5 r3
            go_wp2_with fail
            go_roundw
            case rel => exact ⟨j + 1, Y, L2, c2, by omega, by go_num, rfl, HN2⟩
            case measure => simp [intOf]; omega
        · have hjk : j = k := by omega
          subst hjk
          have HFI := Lib.hid (HFIN.out wr2 Aj L c HO.out)
          have hjj : ¬ (j : Int) < (j : Int) := by omega
          clear HO
          go_wp2_with fail
          go_ret
          exact HFI.out
end
end Go.Proofs.Ytnobggabjpcbfaa

/-
  The flat evaluator: right sides by kinds.
-/
set_option linter.unusedVariables false
set_option linter.unusedSimpArgs false
namespace Go.Proofs.Ytnobggabjpcbfaa
open Go.RowKit

section
variable {rb B : Nat} {p : FlatP} {inp : List Int} {fuel n : Nat} {s : FSt} {m : Mem} {W : World}
theorem RowZ.one {l : List PV} {A : Option Addr} (h : RowZ rb m W l A) (hl : l.length = 1) : ∃ a g T x, l = [a] ∧ A = some ⟨g, 0, none⟩ ∧ g < W.heap.size ∧ ¬ m.mut rb g ∧ W.cell? ⟨g, 0, none⟩ = some (.iface T x) ∧ RepV rb m W a (.iface T x) := by
  match l, hl with
  | [a], _ =>
    obtain ⟨g, F, h1, h2, h3, h4, h5⟩ := h (by simp)
    have hr := h5 0 (by simp)
    obtain ⟨T, x, hF⟩ := hr.shape
    rw [hF] at hr
    exact ⟨a, g, T, x, rfl, h1, h2, h3, by rw [h4 0 (by simp), hF], hr⟩
theorem RowZ.two {l : List PV} {A : Option Addr} (h : RowZ rb m W l A) (hl : l.length = 2) : ∃ a b g T x U y, l = [a, b] ∧ A = some ⟨g, 0, none⟩ ∧ g < W.heap.size ∧ ¬ m.mut rb g ∧ W.cell? ⟨g, 0, none⟩ = some (.iface T x) ∧ W.cell? ⟨g, 1, none⟩ = some (.iface U y) ∧ RepV rb m W a (.iface T x) ∧ RepV rb m W b (.iface U y) := by
  match l, hl with
  | [a, b], _ =>
    obtain ⟨g, F, h1, h2, h3, h4, h5⟩ := h (by simp)
    have hr := h5 0 (by simp)
    have hr1 := h5 1 (by simp)
    obtain ⟨T, x, hF⟩ := hr.shape
    obtain ⟨U, y, hF1⟩ := hr1.shape
    rw [hF] at hr
    rw [hF1] at hr1
    exact ⟨a, b, g, T, x, U, y, rfl, h1, h2, h3, by rw [h4 0 (by simp), hF], by rw [h4 1 (by simp), hF1], hr, hr1⟩
/-- what a right side comes to -/
def sideF (p : FlatP) (inp : List Int) (n : Nat) (k nn : Int) (ats : List Atm) (ks : List Int) (bl : List Anf) (e : PEnv) (s : FSt) : FOut :=
  match atomsP e ats with
  | some l => rhsF p.funs inp (evF p.funs inp n) k nn l ks bl e s
  | none => (.stuck, s)
theorem sideF_some {k nn : Int} {ats : List Atm} {ks : List Int} {bl : List Anf} {e : PEnv} {l : List PV} (h : atomsP e ats = some l) : sideF p inp n k nn ats ks bl e s = rhsF p.funs inp (evF p.funs inp n) k nn l ks bl e s := by unfold sideF; rw [h]
theorem sideF_none {k nn : Int} {ats : List Atm} {ks : List Int} {bl : List Anf} {e : PEnv} (h : atomsP e ats = none) : sideF p inp n k nn ats ks bl e s = (.stuck, s) := by unfold sideF; rw [h]

set_option maxRecDepth 100000 in
set_option maxHeartbeats 4000000 in
theorem side_atom (hg : Good rb B p inp fuel s m W) {ats : List Atm} {ks : List Int} {bl : List Anf} {Aa Ak Al : Option Addr} {ca ck cb : Nat} {e : PEnv} {ge : Value} (he : EnvIn rb m W e ge) (ha : AtomsIn W.heap.size W Aa ats) (nn : Int) (h1 : ats.length = 1):
    Calls Try.prog 53 #[.pointer (some ⟨rb, 0, none⟩), .agg #[.int .i64 1, .int .i64 nn, .slice Aa ats.length ca, .slice Ak ks.length ck, .slice Al bl.length cb], ge] W (EvPost rb B p inp fuel m W (sideF p inp n 1 nn ats ks bl e s)) := by
  obtain ⟨pk, rfl⟩ := he.shape
  obtain ⟨W0, hW0⟩ : ∃ W0, W.alloc (.cells #[.int .i64 1, .int .i64 nn, .slice Aa ats.length ca, .slice Ak ks.length ck, .slice Al bl.length cb] 52) = W0 := ⟨_, rfl⟩
  have hb0 : Below W.heap.size W W0 := by rw [← hW0]; exact (Below.refl _ _).alloc (Nat.le_refl _) _
  have hs0 : W.heap.size < W0.heap.size := by rw [← hW0]; simp
  have c0 : W0.cell? ⟨W.heap.size, 0, none⟩ = some (.int .i64 1) := by rw [← hW0, World.cell?_alloc_at _ _ _ _ rfl]; rfl
  have c1 : W0.cell? ⟨W.heap.size, 1, none⟩ = some (.int .i64 nn) := by rw [← hW0, World.cell?_alloc_at _ _ _ _ rfl]; rfl
  have c2 : W0.cell? ⟨W.heap.size, 2, none⟩ = some (.slice Aa ats.length ca) := by rw [← hW0, World.cell?_alloc_at _ _ _ _ rfl]; rfl
  have c3 : W0.cell? ⟨W.heap.size, 3, none⟩ = some (.slice Ak ks.length ck) := by rw [← hW0, World.cell?_alloc_at _ _ _ _ rfl]; rfl
  have c4 : W0.cell? ⟨W.heap.size, 4, none⟩ = some (.slice Al bl.length cb) := by rw [← hW0, World.cell?_alloc_at _ _ _ _ rfl]; rfl
  have HR := Lib.hid (fun (V : World) (hV : Below W0.heap.size W0 V) => (show V.cell? ⟨W.heap.size, 0, none⟩ = some (.int .i64 1) ∧ V.cell? ⟨W.heap.size, 1, none⟩ = some (.int .i64 nn) ∧ V.cell? ⟨W.heap.size, 3, none⟩ = some (.slice Ak ks.length ck) ∧ V.cell? ⟨W.heap.size, 4, none⟩ = some (.slice Al bl.length cb) from
    ⟨(hV.cell (p := ⟨W.heap.size, 0, none⟩) hs0).trans c0, (hV.cell (p := ⟨W.heap.size, 1, none⟩) hs0).trans c1, (hV.cell (p := ⟨W.heap.size, 3, none⟩) hs0).trans c3, (hV.cell (p := ⟨W.heap.size, 4, none⟩) hs0).trans c4⟩))
  have hE0 : Evo rb m m W W0 := Evo.below hb0
  have HA := Lib.hid (show Calls Try.prog 64 #[.pointer pk, .slice Aa ats.length ca] W0 (AtomsPost rb m W0 (atomsP e ats)) from
    atoms_any (fun k hk => Nat.lt_of_lt_of_le (hg.mutLt hk) (Nat.le_of_lt hs0)) (he.evo hE0) ((ha.below hb0).mono (Nat.le_of_lt hs0)))
  have HST := Lib.hid (fun (V : World) (hV : Below W0.heap.size W0 V) (ho : atomsP e ats = none) => (show EvPost rb B p inp fuel m W (sideF p inp n 1 nn ats ks bl e s) (.panicked (stopV 4)) V from by
    rw [sideF_none ho]
    have hb : Below W.heap.size W V := hb0.trans (hV.mono (Nat.le_of_lt hs0))
    exact .stuck (Evo.below hb) (hg.below hb) (thrown_one _ _)))
  have HW := Lib.hid (fun (V : World) (hV : Below W0.heap.size W0 V) => (show Below W.heap.size W V from hb0.trans (hV.mono (Nat.le_of_lt hs0))))
  have HL := Lib.hid (fun (l : List PV) (ho : atomsP e ats = some l) => atomsP_len ats l ho)
  have HE := Lib.hid (fun (V : World) (l : List PV) (A : Option Addr) (hV : Below W.heap.size W V) (ho : sideF p inp n 1 nn ats ks bl e s = rhsF p.funs inp (evF p.funs inp n) 1 nn l ks bl e s) (hr : RowZ rb m V l A) (hl : l.length = 1) => (show ∃ g T x, A = some ⟨g, 0, none⟩ ∧ V.cell? ⟨g, 0, none⟩ = some (.iface T x) ∧ EvPost rb B p inp fuel m W (sideF p inp n 1 nn ats ks bl e s) (.returned (.iface T x)) V from by
    obtain ⟨a, g, T, x, rfl, h2, h3, h4, h5, h6⟩ := hr.one hl
    refine ⟨g, T, x, h2, h5, ?_⟩
    rw [ho]
    exact .val (Evo.below hV) (hg.below hV) h6))
  have h1' := Lib.hid h1
  obtain ⟨out, hout⟩ : ∃ o, sideF p inp n 1 nn ats ks bl e s = o := ⟨_, rfl⟩
  rw [hout] at HE
  rw [hout] at HST ⊢
  have HO := Lib.hid hout
  clear hout hE0 hs0 hb0 c0 c1 c3 c4 ha hg he h1
  go_enter Try.func53, Try.ntmps53
  go_wp2_with fail
  refine HA.out.mono ?_
  rintro en w' (⟨l, A, cap, hv, rfl, hlc, hrow, hw⟩ | ⟨hv, rfl, hw⟩)
  rotate_left
  · exact ⟨rfl, HST.out _ hw hv⟩
  have hll := HL.out l hv
  have ho := HO.out.symm.trans (sideF_some hv)
  obtain ⟨d0, d1, d3, d4⟩ := HR.out w' hw
  have HWW := Lib.hid (HW.out w' hw)
  clear HA HST HR HL HW HO hv hw hW0 c2
  obtain ⟨g, T, x, rfl, q0, hq⟩ := HE.out w' l A HWW.out ho hrow (by rw [hll, h1'.out])
  have hl1 : l.length = 1 := by rw [hll, h1'.out]
  rw [hl1] at hlc ⊢
  have HQ := Lib.hid hq
  clear hrow hq ho hll hl1 HE HWW
  go_wp2_with fail
  go_ret
  exact HQ.out

set_option maxRecDepth 100000 in
set_option maxHeartbeats 4000000 in
theorem side_block (hg : Good rb B p inp fuel s m W) {ats : List Atm} {ks : List Int} {bl : List Anf} {Aa Ak Al : Option Addr} {ca ck cb : Nat} {e : PEnv} {ge : Value} (he : EnvIn rb m W e ge) (ha : AtomsIn W.heap.size W Aa ats) (nn : Int) (h1 : 1 ≤ ats.length ∧ ats.length ≤ 8):
    Calls Try.prog 53 #[.pointer (some ⟨rb, 0, none⟩), .agg #[.int .i64 3, .int .i64 nn, .slice Aa ats.length ca, .slice Ak ks.length ck, .slice Al bl.length cb], ge] W (EvPost rb B p inp fuel m W (sideF p inp n 3 nn ats ks bl e s)) := by
  obtain ⟨pk, rfl⟩ := he.shape
  obtain ⟨W0, hW0⟩ : ∃ W0, W.alloc (.cells #[.int .i64 3, .int .i64 nn, .slice Aa ats.length ca, .slice Ak ks.length ck, .slice Al bl.length cb] 52) = W0 := ⟨_, rfl⟩
  have hb0 : Below W.heap.size W W0 := by rw [← hW0]; exact (Below.refl _ _).alloc (Nat.le_refl _) _
  have hs0 : W.heap.size < W0.heap.size := by rw [← hW0]; simp
  have c0 : W0.cell? ⟨W.heap.size, 0, none⟩ = some (.int .i64 3) := by rw [← hW0, World.cell?_alloc_at _ _ _ _ rfl]; rfl
  have c1 : W0.cell? ⟨W.heap.size, 1, none⟩ = some (.int .i64 nn) := by rw [← hW0, World.cell?_alloc_at _ _ _ _ rfl]; rfl
  have c2 : W0.cell? ⟨W.heap.size, 2, none⟩ = some (.slice Aa ats.length ca) := by rw [← hW0, World.cell?_alloc_at _ _ _ _ rfl]; rfl
  have c3 : W0.cell? ⟨W.heap.size, 3, none⟩ = some (.slice Ak ks.length ck) := by rw [← hW0, World.cell?_alloc_at _ _ _ _ rfl]; rfl
  have c4 : W0.cell? ⟨W.heap.size, 4, none⟩ = some (.slice Al bl.length cb) := by rw [← hW0, World.cell?_alloc_at _ _ _ _ rfl]; rfl
  have HR := Lib.hid (fun (V : World) (hV : Below W0.heap.size W0 V) => (show V.cell? ⟨W.heap.size, 0, none⟩ = some (.int .i64 3) ∧ V.cell? ⟨W.heap.size, 1, none⟩ = some (.int .i64 nn) ∧ V.cell? ⟨W.heap.size, 3, none⟩ = some (.slice Ak ks.length ck) ∧ V.cell? ⟨W.heap.size, 4, none⟩ = some (.slice Al bl.length cb) from
    ⟨(hV.cell (p := ⟨W.heap.size, 0, none⟩) hs0).trans c0, (hV.cell (p := ⟨W.heap.size, 1, none⟩) hs0).trans c1, (hV.cell (p := ⟨W.heap.size, 3, none⟩) hs0).trans c3, (hV.cell (p := ⟨W.heap.size, 4, none⟩) hs0).trans c4⟩))
  have hE0 : Evo rb m m W W0 := Evo.below hb0
  have HA := Lib.hid (show Calls Try.prog 64 #[.pointer pk, .slice Aa ats.length ca] W0 (AtomsPost rb m W0 (atomsP e ats)) from
    atoms_any (fun k hk => Nat.lt_of_lt_of_le (hg.mutLt hk) (Nat.le_of_lt hs0)) (he.evo hE0) ((ha.below hb0).mono (Nat.le_of_lt hs0)))
  have HST := Lib.hid (fun (V : World) (hV : Below W0.heap.size W0 V) (ho : atomsP e ats = none) => (show EvPost rb B p inp fuel m W (sideF p inp n 3 nn ats ks bl e s) (.panicked (stopV 4)) V from by
    rw [sideF_none ho]
    have hb : Below W.heap.size W V := hb0.trans (hV.mono (Nat.le_of_lt hs0))
    exact .stuck (Evo.below hb) (hg.below hb) (thrown_one _ _)))
  have HW := Lib.hid (fun (V : World) (hV : Below W0.heap.size W0 V) => (show Below W.heap.size W V from hb0.trans (hV.mono (Nat.le_of_lt hs0))))
  have HL := Lib.hid (fun (l : List PV) (ho : atomsP e ats = some l) => atomsP_len ats l ho)
  have HE := Lib.hid (fun (V : World) (l : List PV) (A : Option Addr) (cap : Nat) (hV : Below W.heap.size W V) (ho : sideF p inp n 3 nn ats ks bl e s = rhsF p.funs inp (evF p.funs inp n) 3 nn l ks bl e s) (hr : RowZ rb m V l A) (hl : l.length = ats.length) (hc : l.length ≤ cap) => (show EvPost rb B p inp fuel m W (sideF p inp n 3 nn ats ks bl e s) (.returned (.iface 91 (.pointer (some ⟨V.heap.size, 0, none⟩)))) (V.alloc (.cells #[.int .i64 nn, .slice A l.length cap] 94)) from by
    obtain ⟨g, F, rfl, h2, h3, h4, h5⟩ := hr (by omega)
    have hgV := hg.below hV
    have ha : Evo rb m m V (V.alloc (.cells #[.int .i64 nn, .slice (some ⟨g, 0, none⟩) l.length cap] 94)) := Evo.alloc _ _ _ _
    rw [ho, show rhsF p.funs inp (evF p.funs inp n) 3 nn l ks bl e s = (.val (.blk nn l), s) by simp [rhsF]]
    exact .val ((Evo.below hV).trans ha) (hgV.below ((Below.refl _ _).alloc (Nat.le_refl _) _)) (.blk (at_new (fun k hk => hgV.mutLt hk) _ _) (Nat.lt_of_lt_of_le h2 ha.size) h3 hc (by omega) (by omega) (fun j hj => (cell_of_heap (ha.same g h2 h3) j).trans (h4 j hj)) (fun j hj => (h5 j hj).evo ha))))
  obtain ⟨out, hout⟩ : ∃ o, sideF p inp n 3 nn ats ks bl e s = o := ⟨_, rfl⟩
  rw [hout] at HE
  rw [hout] at HST ⊢
  have HO := Lib.hid hout
  clear hout hE0 hs0 hb0 c0 c1 c3 c4 ha hg he h1
  go_enter Try.func53, Try.ntmps53
  go_wp2_with fail
  refine HA.out.mono ?_
  rintro en w' (⟨l, A, cap, hv, rfl, hlc, hrow, hw⟩ | ⟨hv, rfl, hw⟩)
  rotate_left
  · exact ⟨rfl, HST.out _ hw hv⟩
  have hll := HL.out l hv
  have ho := HO.out.symm.trans (sideF_some hv)
  obtain ⟨d0, d1, d3, d4⟩ := HR.out w' hw
  have HWW := Lib.hid (HW.out w' hw)
  clear HA HST HR HL HW HO hv hw hW0 c2
  have HQ := Lib.hid (HE.out w' l A cap HWW.out ho hrow hll hlc)
  clear hrow ho hll HE HWW
  go_wp2_with fail
  go_ret
  exact HQ.out

set_option maxRecDepth 100000 in
set_option maxHeartbeats 4000000 in
theorem side_close (hg : Good rb B p inp fuel s m W) {ats : List Atm} {ks : List Int} {bl : List Anf} {Aa Ak Al : Option Addr} {ca ck cb : Nat} {e : PEnv} {ge : Value} (he : EnvIn rb m W e ge) (ha : AtomsIn W.heap.size W Aa ats) (nn : Int) (h1 : ats.length ≤ 255 ∧ 0 ≤ nn ∧ nn < p.funs.length):
    Calls Try.prog 53 #[.pointer (some ⟨rb, 0, none⟩), .agg #[.int .i64 9, .int .i64 nn, .slice Aa ats.length ca, .slice Ak ks.length ck, .slice Al bl.length cb], ge] W (EvPost rb B p inp fuel m W (sideF p inp n 9 nn ats ks bl e s)) := by
  obtain ⟨pk, rfl⟩ := he.shape
  obtain ⟨W0, hW0⟩ : ∃ W0, W.alloc (.cells #[.int .i64 9, .int .i64 nn, .slice Aa ats.length ca, .slice Ak ks.length ck, .slice Al bl.length cb] 52) = W0 := ⟨_, rfl⟩
  have hb0 : Below W.heap.size W W0 := by rw [← hW0]; exact (Below.refl _ _).alloc (Nat.le_refl _) _
  have hs0 : W.heap.size < W0.heap.size := by rw [← hW0]; simp
  have c0 : W0.cell? ⟨W.heap.size, 0, none⟩ = some (.int .i64 9) := by rw [← hW0, World.cell?_alloc_at _ _ _ _ rfl]; rfl
  have c1 : W0.cell? ⟨W.heap.size, 1, none⟩ = some (.int .i64 nn) := by rw [← hW0, World.cell?_alloc_at _ _ _ _ rfl]; rfl
  have c2 : W0.cell? ⟨W.heap.size, 2, none⟩ = some (.slice Aa ats.length ca) := by rw [← hW0, World.cell?_alloc_at _ _ _ _ rfl]; rfl
  have c3 : W0.cell? ⟨W.heap.size, 3, none⟩ = some (.slice Ak ks.length ck) := by rw [← hW0, World.cell?_alloc_at _ _ _ _ rfl]; rfl
  have c4 : W0.cell? ⟨W.heap.size, 4, none⟩ = some (.slice Al bl.length cb) := by rw [← hW0, World.cell?_alloc_at _ _ _ _ rfl]; rfl
  have HR := Lib.hid (fun (V : World) (hV : Below W0.heap.size W0 V) => (show V.cell? ⟨W.heap.size, 0, none⟩ = some (.int .i64 9) ∧ V.cell? ⟨W.heap.size, 1, none⟩ = some (.int .i64 nn) ∧ V.cell? ⟨W.heap.size, 3, none⟩ = some (.slice Ak ks.length ck) ∧ V.cell? ⟨W.heap.size, 4, none⟩ = some (.slice Al bl.length cb) from
    ⟨(hV.cell (p := ⟨W.heap.size, 0, none⟩) hs0).trans c0, (hV.cell (p := ⟨W.heap.size, 1, none⟩) hs0).trans c1, (hV.cell (p := ⟨W.heap.size, 3, none⟩) hs0).trans c3, (hV.cell (p := ⟨W.heap.size, 4, none⟩) hs0).trans c4⟩))
  have hE0 : Evo rb m m W W0 := Evo.below hb0
  have HA := Lib.hid (show Calls Try.prog 64 #[.pointer pk, .slice Aa ats.length ca] W0 (AtomsPost rb m W0 (atomsP e ats)) from
    atoms_any (fun k hk => Nat.lt_of_lt_of_le (hg.mutLt hk) (Nat.le_of_lt hs0)) (he.evo hE0) ((ha.below hb0).mono (Nat.le_of_lt hs0)))
  have HST := Lib.hid (fun (V : World) (hV : Below W0.heap.size W0 V) (ho : atomsP e ats = none) => (show EvPost rb B p inp fuel m W (sideF p inp n 9 nn ats ks bl e s) (.panicked (stopV 4)) V from by
    rw [sideF_none ho]
    have hb : Below W.heap.size W V := hb0.trans (hV.mono (Nat.le_of_lt hs0))
    exact .stuck (Evo.below hb) (hg.below hb) (thrown_one _ _)))
  have HW := Lib.hid (fun (V : World) (hV : Below W0.heap.size W0 V) => (show Below W.heap.size W V from hb0.trans (hV.mono (Nat.le_of_lt hs0))))
  have HL := Lib.hid (fun (l : List PV) (ho : atomsP e ats = some l) => atomsP_len ats l ho)
  have HE := Lib.hid (fun (V : World) (l : List PV) (A : Option Addr) (cap : Nat) (hV : Below W.heap.size W V) (ho : sideF p inp n 9 nn ats ks bl e s = rhsF p.funs inp (evF p.funs inp n) 9 nn l ks bl e s) (hr : RowZ rb m V l A) (hl : l.length = ats.length) (hc : l.length ≤ cap) => (show EvPost rb B p inp fuel m W (sideF p inp n 9 nn ats ks bl e s) (.returned (.iface 109 (.pointer (some ⟨V.heap.size, 0, none⟩)))) (V.alloc (.cells #[.int .i64 nn, .slice A l.length cap] 111)) from by
    have hgV := hg.below hV
    obtain ⟨q1, q2, q3⟩ := hgV.addClosure h1.2.1 h1.2.2 hc (by omega) hr.row
    rw [ho, show rhsF p.funs inp (evF p.funs inp n) 9 nn l ks bl e s = (.val (.fn s.made.length), { s with made := s.made ++ [(nn, l)] }) by simp [rhsF]]
    exact .val ((Evo.below hV).trans q2) q1 q3))
  obtain ⟨out, hout⟩ : ∃ o, sideF p inp n 9 nn ats ks bl e s = o := ⟨_, rfl⟩
  rw [hout] at HE
  rw [hout] at HST ⊢
  have HO := Lib.hid hout
  clear hout hE0 hs0 hb0 c0 c1 c3 c4 ha hg he h1
  go_enter Try.func53, Try.ntmps53
  go_wp2_with fail
  refine HA.out.mono ?_
  rintro en w' (⟨l, A, cap, hv, rfl, hlc, hrow, hw⟩ | ⟨hv, rfl, hw⟩)
  rotate_left
  · exact ⟨rfl, HST.out _ hw hv⟩
  have hll := HL.out l hv
  have ho := HO.out.symm.trans (sideF_some hv)
  obtain ⟨d0, d1, d3, d4⟩ := HR.out w' hw
  have HWW := Lib.hid (HW.out w' hw)
  clear HA HST HR HL HW HO hv hw hW0 c2
  have HQ := Lib.hid (HE.out w' l A cap HWW.out ho hrow hll hlc)
  clear hrow ho hll HE HWW
  go_wp2_with fail
  go_ret
  exact HQ.out

set_option maxRecDepth 100000 in
set_option maxHeartbeats 4000000 in
theorem side_field (hg : Good rb B p inp fuel s m W) {ats : List Atm} {ks : List Int} {bl : List Anf} {Aa Ak Al : Option Addr} {ca ck cb : Nat} {e : PEnv} {ge : Value} (he : EnvIn rb m W e ge) (ha : AtomsIn W.heap.size W Aa ats) (nn : Int) (h1 : ats.length = 1) (h2 : 0 ≤ nn ∧ nn ≤ 255):
    Calls Try.prog 53 #[.pointer (some ⟨rb, 0, none⟩), .agg #[.int .i64 4, .int .i64 nn, .slice Aa ats.length ca, .slice Ak ks.length ck, .slice Al bl.length cb], ge] W (EvPost rb B p inp fuel m W (sideF p inp n 4 nn ats ks bl e s)) := by
  obtain ⟨pk, rfl⟩ := he.shape
  obtain ⟨W0, hW0⟩ : ∃ W0, W.alloc (.cells #[.int .i64 4, .int .i64 nn, .slice Aa ats.length ca, .slice Ak ks.length ck, .slice Al bl.length cb] 52) = W0 := ⟨_, rfl⟩
  have hb0 : Below W.heap.size W W0 := by rw [← hW0]; exact (Below.refl _ _).alloc (Nat.le_refl _) _
  have hs0 : W.heap.size < W0.heap.size := by rw [← hW0]; simp
  have c0 : W0.cell? ⟨W.heap.size, 0, none⟩ = some (.int .i64 4) := by rw [← hW0, World.cell?_alloc_at _ _ _ _ rfl]; rfl
  have c1 : W0.cell? ⟨W.heap.size, 1, none⟩ = some (.int .i64 nn) := by rw [← hW0, World.cell?_alloc_at _ _ _ _ rfl]; rfl
  have c2 : W0.cell? ⟨W.heap.size, 2, none⟩ = some (.slice Aa ats.length ca) := by rw [← hW0, World.cell?_alloc_at _ _ _ _ rfl]; rfl
  have c3 : W0.cell? ⟨W.heap.size, 3, none⟩ = some (.slice Ak ks.length ck) := by rw [← hW0, World.cell?_alloc_at _ _ _ _ rfl]; rfl
  have c4 : W0.cell? ⟨W.heap.size, 4, none⟩ = some (.slice Al bl.length cb) := by rw [← hW0, World.cell?_alloc_at _ _ _ _ rfl]; rfl
  have HR := Lib.hid (fun (V : World) (hV : Below W0.heap.size W0 V) => (show V.cell? ⟨W.heap.size, 0, none⟩ = some (.int .i64 4) ∧ V.cell? ⟨W.heap.size, 1, none⟩ = some (.int .i64 nn) ∧ V.cell? ⟨W.heap.size, 3, none⟩ = some (.slice Ak ks.length ck) ∧ V.cell? ⟨W.heap.size, 4, none⟩ = some (.slice Al bl.length cb) from
    ⟨(hV.cell (p := ⟨W.heap.size, 0, none⟩) hs0).trans c0, (hV.cell (p := ⟨W.heap.size, 1, none⟩) hs0).trans c1, (hV.cell (p := ⟨W.heap.size, 3, none⟩) hs0).trans c3, (hV.cell (p := ⟨W.heap.size, 4, none⟩) hs0).trans c4⟩))
  have hE0 : Evo rb m m W W0 := Evo.below hb0
  have HA := Lib.hid (show Calls Try.prog 64 #[.pointer pk, .slice Aa ats.length ca] W0 (AtomsPost rb m W0 (atomsP e ats)) from
    atoms_any (fun k hk => Nat.lt_of_lt_of_le (hg.mutLt hk) (Nat.le_of_lt hs0)) (he.evo hE0) ((ha.below hb0).mono (Nat.le_of_lt hs0)))
  have HST := Lib.hid (fun (V : World) (hV : Below W0.heap.size W0 V) (ho : atomsP e ats = none) => (show EvPost rb B p inp fuel m W (sideF p inp n 4 nn ats ks bl e s) (.panicked (stopV 4)) V from by
    rw [sideF_none ho]
    have hb : Below W.heap.size W V := hb0.trans (hV.mono (Nat.le_of_lt hs0))
    exact .stuck (Evo.below hb) (hg.below hb) (thrown_one _ _)))
  have HW := Lib.hid (fun (V : World) (hV : Below W0.heap.size W0 V) => (show Below W.heap.size W V from hb0.trans (hV.mono (Nat.le_of_lt hs0))))
  have HL := Lib.hid (fun (l : List PV) (ho : atomsP e ats = some l) => atomsP_len ats l ho)
  have HE := Lib.hid (fun (V : World) (l : List PV) (A : Option Addr) (hV : Below W.heap.size W V) (ho : sideF p inp n 4 nn ats ks bl e s = rhsF p.funs inp (evF p.funs inp n) 4 nn l ks bl e s) (hr : RowZ rb m V l A) (hl : l.length = 1) => (show ∃ g T x, A = some ⟨g, 0, none⟩ ∧ V.cell? ⟨g, 0, none⟩ = some (.iface T x) ∧ Calls Try.prog 65 #[.iface T x, .int .i64 nn] V.drew fun en V' => V.drew = V' ∧ ((∃ T' x', en = .returned (.iface T' x') ∧ EvPost rb B p inp fuel m W (sideF p inp n 4 nn ats ks bl e s) (.returned (.iface T' x')) V') ∨ (en = .panicked (stopV 4) ∧ EvPost rb B p inp fuel m W (sideF p inp n 4 nn ats ks bl e s) (.panicked (stopV 4)) V')) from by
    obtain ⟨a, g, T, x, rfl, q2, q3, q4, q5, q6⟩ := hr.one hl
    have hgV := hg.below hV
    have hd : Evo rb m m V V.drew := (Evo.refl _ _ _).drew
    have hgd := hgV.below (Below.refl _ _).drew
    refine ⟨g, T, x, q2, q5, ?_⟩
    rw [ho, show rhsF p.funs inp (evF p.funs inp n) 4 nn [a] ks bl e s = fieldF a nn s by simp [rhsF]]
    refine (field_any hgd (q6.evo hd) h2.1 h2.2).mono ?_
    rintro en V' (⟨v, T', x', k1, rfl, k3, rfl⟩ | ⟨k1, rfl, rfl⟩)
    · exact ⟨rfl, .inl ⟨T', x', rfl, by rw [k1]; exact .val ((Evo.below hV).trans hd) hgd k3⟩⟩
    · exact ⟨rfl, .inr ⟨rfl, by rw [k1]; exact .stuck ((Evo.below hV).trans hd) hgd (thrown_one _ _)⟩⟩))
  have h1' := Lib.hid h1
  obtain ⟨out, hout⟩ : ∃ o, sideF p inp n 4 nn ats ks bl e s = o := ⟨_, rfl⟩
  rw [hout] at HE
  rw [hout] at HST ⊢
  have HO := Lib.hid hout
  clear hout hE0 hs0 hb0 c0 c1 c3 c4 ha hg he h1
  go_enter Try.func53, Try.ntmps53
  go_wp2_with fail
  refine HA.out.mono ?_
  rintro en w' (⟨l, A, cap, hv, rfl, hlc, hrow, hw⟩ | ⟨hv, rfl, hw⟩)
  rotate_left
  · exact ⟨rfl, HST.out _ hw hv⟩
  have hll := HL.out l hv
  have ho := HO.out.symm.trans (sideF_some hv)
  obtain ⟨d0, d1, d3, d4⟩ := HR.out w' hw
  have HWW := Lib.hid (HW.out w' hw)
  clear HA HST HR HL HW HO hv hw hW0 c2
  obtain ⟨g, T, x, rfl, q0, hq⟩ := HE.out w' l A HWW.out ho hrow (by rw [hll, h1'.out])
  have hl1 : l.length = 1 := by rw [hll, h1'.out]
  rw [hl1] at hlc ⊢
  have HQ := Lib.hid hq
  clear hrow hq ho hll hl1 HE HWW d3 d4
  go_wp2_with fail
  go_region_held2 (fun V => V.cell? ⟨g, 0, none⟩ = some (.iface T x) ∧ V.cell? ⟨W.heap.size, 1, none⟩ = some (.int .i64 nn)) (exact ⟨q0, d1⟩)
    ((go_at_call 65; refine HQ.out.mono ?_; rintro en V' ⟨rfl, hV'⟩; rcases hV' with ⟨T', x', rfl, hP⟩ | ⟨rfl, hP⟩; rotate_left; exact ⟨rfl, hP⟩))
  all_goals
    go_wp2_with fail
    go_ret
    exact hP

set_option maxRecDepth 100000 in
set_option maxHeartbeats 4000000 in
theorem side_app (hok : BodyOk rb B p inp fuel n) (hwf : ∀ g ∈ p.funs, WfA p.funs.length g.body) (hn : s.left ≤ n) (hg : Good rb B p inp fuel s m W) {ats : List Atm} {ks : List Int} {bl : List Anf} {Aa Ak Al : Option Addr} {ca ck cb : Nat} {e : PEnv} {ge : Value} (he : EnvIn rb m W e ge) (ha : AtomsIn W.heap.size W Aa ats) (nn : Int) (h1 : ats.length = 2):
    Calls Try.prog 53 #[.pointer (some ⟨rb, 0, none⟩), .agg #[.int .i64 6, .int .i64 nn, .slice Aa ats.length ca, .slice Ak ks.length ck, .slice Al bl.length cb], ge] W (EvPost rb B p inp fuel m W (sideF p inp n 6 nn ats ks bl e s)) := by
  obtain ⟨pk, rfl⟩ := he.shape
  obtain ⟨W0, hW0⟩ : ∃ W0, W.alloc (.cells #[.int .i64 6, .int .i64 nn, .slice Aa ats.length ca, .slice Ak ks.length ck, .slice Al bl.length cb] 52) = W0 := ⟨_, rfl⟩
  have hb0 : Below W.heap.size W W0 := by rw [← hW0]; exact (Below.refl _ _).alloc (Nat.le_refl _) _
  have hs0 : W.heap.size < W0.heap.size := by rw [← hW0]; simp
  have c0 : W0.cell? ⟨W.heap.size, 0, none⟩ = some (.int .i64 6) := by rw [← hW0, World.cell?_alloc_at _ _ _ _ rfl]; rfl
  have c1 : W0.cell? ⟨W.heap.size, 1, none⟩ = some (.int .i64 nn) := by rw [← hW0, World.cell?_alloc_at _ _ _ _ rfl]; rfl
  have c2 : W0.cell? ⟨W.heap.size, 2, none⟩ = some (.slice Aa ats.length ca) := by rw [← hW0, World.cell?_alloc_at _ _ _ _ rfl]; rfl
  have c3 : W0.cell? ⟨W.heap.size, 3, none⟩ = some (.slice Ak ks.length ck) := by rw [← hW0, World.cell?_alloc_at _ _ _ _ rfl]; rfl
  have c4 : W0.cell? ⟨W.heap.size, 4, none⟩ = some (.slice Al bl.length cb) := by rw [← hW0, World.cell?_alloc_at _ _ _ _ rfl]; rfl
  have HR := Lib.hid (fun (V : World) (hV : Below W0.heap.size W0 V) => (show V.cell? ⟨W.heap.size, 0, none⟩ = some (.int .i64 6) ∧ V.cell? ⟨W.heap.size, 1, none⟩ = some (.int .i64 nn) ∧ V.cell? ⟨W.heap.size, 3, none⟩ = some (.slice Ak ks.length ck) ∧ V.cell? ⟨W.heap.size, 4, none⟩ = some (.slice Al bl.length cb) from
    ⟨(hV.cell (p := ⟨W.heap.size, 0, none⟩) hs0).trans c0, (hV.cell (p := ⟨W.heap.size, 1, none⟩) hs0).trans c1, (hV.cell (p := ⟨W.heap.size, 3, none⟩) hs0).trans c3, (hV.cell (p := ⟨W.heap.size, 4, none⟩) hs0).trans c4⟩))
  have hE0 : Evo rb m m W W0 := Evo.below hb0
  have HA := Lib.hid (show Calls Try.prog 64 #[.pointer pk, .slice Aa ats.length ca] W0 (AtomsPost rb m W0 (atomsP e ats)) from
    atoms_any (fun k hk => Nat.lt_of_lt_of_le (hg.mutLt hk) (Nat.le_of_lt hs0)) (he.evo hE0) ((ha.below hb0).mono (Nat.le_of_lt hs0)))
  have HST := Lib.hid (fun (V : World) (hV : Below W0.heap.size W0 V) (ho : atomsP e ats = none) => (show EvPost rb B p inp fuel m W (sideF p inp n 6 nn ats ks bl e s) (.panicked (stopV 4)) V from by
    rw [sideF_none ho]
    have hb : Below W.heap.size W V := hb0.trans (hV.mono (Nat.le_of_lt hs0))
    exact .stuck (Evo.below hb) (hg.below hb) (thrown_one _ _)))
  have HW := Lib.hid (fun (V : World) (hV : Below W0.heap.size W0 V) => (show Below W.heap.size W V from hb0.trans (hV.mono (Nat.le_of_lt hs0))))
  have HL := Lib.hid (fun (l : List PV) (ho : atomsP e ats = some l) => atomsP_len ats l ho)
  have HE := Lib.hid (fun (V : World) (l : List PV) (A : Option Addr) (hV : Below W.heap.size W V) (ho : sideF p inp n 6 nn ats ks bl e s = rhsF p.funs inp (evF p.funs inp n) 6 nn l ks bl e s) (hr : RowZ rb m V l A) (hl : l.length = 2) => (show ∃ g T x U y, A = some ⟨g, 0, none⟩ ∧ V.cell? ⟨g, 0, none⟩ = some (.iface T x) ∧ V.cell? ⟨g, 1, none⟩ = some (.iface U y) ∧ (∀ (m' : Mem) (V' : World), Evo rb m m' V V' → V'.cell? ⟨g, 0, none⟩ = some (.iface T x) ∧ V'.cell? ⟨g, 1, none⟩ = some (.iface U y)) ∧ Calls Try.prog 66 #[.pointer (some ⟨rb, 0, none⟩), .iface T x, .iface U y] V.drew fun en V' => (∃ m', Evo rb m m' V V') ∧ EvPost rb B p inp fuel m W (sideF p inp n 6 nn ats ks bl e s) en V' from by
    obtain ⟨a, b, g, T, x, U, y, rfl, q2, q3, q4, q5, q6, q7, q8⟩ := hr.two hl
    have hgV := hg.below hV
    have hd : Evo rb m m V V.drew := (Evo.refl _ _ _).drew
    have hgd := hgV.below (Below.refl _ _).drew
    refine ⟨g, T, x, U, y, q2, q5, q6, fun m' V' hE => ⟨(cell_of_heap (hE.same g q3 q4) _).trans q5, (cell_of_heap (hE.same g q3 q4) _).trans q6⟩, ?_⟩
    rw [ho, show rhsF p.funs inp (evF p.funs inp n) 6 nn [a, b] ks bl e s = callF p.funs (evF p.funs inp n) a b s by simp [rhsF]]
    refine (call_any hok hwf a b (q7.evo hd) (q8.evo hd) hgd hn).mono fun en V' h => ?_
    obtain ⟨m', hm'⟩ := h.evo
    exact ⟨⟨m', hd.trans hm'⟩, h.from_ ((Evo.below hV).trans hd)⟩))
  have h1' := Lib.hid h1
  obtain ⟨out, hout⟩ : ∃ o, sideF p inp n 6 nn ats ks bl e s = o := ⟨_, rfl⟩
  rw [hout] at HE
  rw [hout] at HST ⊢
  have HO := Lib.hid hout
  clear hout hE0 hs0 hb0 c0 c1 c3 c4 ha hg he h1 hok hwf
  go_enter Try.func53, Try.ntmps53
  go_wp2_with fail
  refine HA.out.mono ?_
  rintro en w' (⟨l, A, cap, hv, rfl, hlc, hrow, hw⟩ | ⟨hv, rfl, hw⟩)
  rotate_left
  · exact ⟨rfl, HST.out _ hw hv⟩
  have hll := HL.out l hv
  have ho := HO.out.symm.trans (sideF_some hv)
  obtain ⟨d0, d1, d3, d4⟩ := HR.out w' hw
  have HWW := Lib.hid (HW.out w' hw)
  clear HA HST HR HL HW HO hv hw hW0 c2
  obtain ⟨g, T, x, U, y, rfl, q0, q1, hS, hq⟩ := HE.out w' l A HWW.out ho hrow (by rw [hll, h1'.out])
  have hl1 : l.length = 2 := by rw [hll, h1'.out]
  rw [hl1] at hlc ⊢
  have HQ := Lib.hid hq
  have HS := Lib.hid hS
  clear hrow hq hS ho hll hl1 HE HWW d3 d4 d1
  go_wp2_with fail
  go_region_held2 (fun V => V.cell? ⟨g, 0, none⟩ = some (.iface T x) ∧ V.cell? ⟨g, 1, none⟩ = some (.iface U y)) (first | exact ⟨q0, q1⟩ | exact HS.out _ _ hEV)
    ((go_at_call 66; refine HQ.out.mono ?_; rintro en V' ⟨⟨mE, hEV⟩, h⟩; rcases h.ends with ⟨g', rfl, hP⟩ | ⟨ch, rfl, hP⟩; rotate_left; exact ⟨rfl, hP⟩))
  all_goals
    go_wp2_with fail
    go_ret
    exact hP

set_option maxRecDepth 100000 in
set_option maxHeartbeats 4000000 in
theorem side_prim (hok : BodyOk rb B p inp fuel n) (hwf : ∀ g ∈ p.funs, WfA p.funs.length g.body) (hn : s.left ≤ n) (hs : s.out.length + s.left < fuel) (hg : Good rb B p inp fuel s m W) {ats : List Atm} {ks : List Int} {bl : List Anf} {Aa Ak Al : Option Addr} {ca ck cb : Nat} {e : PEnv} {ge : Value} (he : EnvIn rb m W e ge) (ha : AtomsIn W.heap.size W Aa ats) (nn : Int) (h1 : ats.length = if twoF nn then 2 else 1) (h2 : 1 ≤ nn ∧ nn ≤ 16):
    Calls Try.prog 53 #[.pointer (some ⟨rb, 0, none⟩), .agg #[.int .i64 2, .int .i64 nn, .slice Aa ats.length ca, .slice Ak ks.length ck, .slice Al bl.length cb], ge] W (EvPost rb B p inp fuel m W (sideF p inp n 2 nn ats ks bl e s)) := by
  obtain ⟨pk, rfl⟩ := he.shape
  obtain ⟨W0, hW0⟩ : ∃ W0, W.alloc (.cells #[.int .i64 2, .int .i64 nn, .slice Aa ats.length ca, .slice Ak ks.length ck, .slice Al bl.length cb] 52) = W0 := ⟨_, rfl⟩
  have hb0 : Below W.heap.size W W0 := by rw [← hW0]; exact (Below.refl _ _).alloc (Nat.le_refl _) _
  have hs0 : W.heap.size < W0.heap.size := by rw [← hW0]; simp
  have c0 : W0.cell? ⟨W.heap.size, 0, none⟩ = some (.int .i64 2) := by rw [← hW0, World.cell?_alloc_at _ _ _ _ rfl]; rfl
  have c1 : W0.cell? ⟨W.heap.size, 1, none⟩ = some (.int .i64 nn) := by rw [← hW0, World.cell?_alloc_at _ _ _ _ rfl]; rfl
  have c2 : W0.cell? ⟨W.heap.size, 2, none⟩ = some (.slice Aa ats.length ca) := by rw [← hW0, World.cell?_alloc_at _ _ _ _ rfl]; rfl
  have c3 : W0.cell? ⟨W.heap.size, 3, none⟩ = some (.slice Ak ks.length ck) := by rw [← hW0, World.cell?_alloc_at _ _ _ _ rfl]; rfl
  have c4 : W0.cell? ⟨W.heap.size, 4, none⟩ = some (.slice Al bl.length cb) := by rw [← hW0, World.cell?_alloc_at _ _ _ _ rfl]; rfl
  have HR := Lib.hid (fun (V : World) (hV : Below W0.heap.size W0 V) => (show V.cell? ⟨W.heap.size, 0, none⟩ = some (.int .i64 2) ∧ V.cell? ⟨W.heap.size, 1, none⟩ = some (.int .i64 nn) ∧ V.cell? ⟨W.heap.size, 3, none⟩ = some (.slice Ak ks.length ck) ∧ V.cell? ⟨W.heap.size, 4, none⟩ = some (.slice Al bl.length cb) from
    ⟨(hV.cell (p := ⟨W.heap.size, 0, none⟩) hs0).trans c0, (hV.cell (p := ⟨W.heap.size, 1, none⟩) hs0).trans c1, (hV.cell (p := ⟨W.heap.size, 3, none⟩) hs0).trans c3, (hV.cell (p := ⟨W.heap.size, 4, none⟩) hs0).trans c4⟩))
  have hE0 : Evo rb m m W W0 := Evo.below hb0
  have HA := Lib.hid (show Calls Try.prog 64 #[.pointer pk, .slice Aa ats.length ca] W0 (AtomsPost rb m W0 (atomsP e ats)) from
    atoms_any (fun k hk => Nat.lt_of_lt_of_le (hg.mutLt hk) (Nat.le_of_lt hs0)) (he.evo hE0) ((ha.below hb0).mono (Nat.le_of_lt hs0)))
  have HST := Lib.hid (fun (V : World) (hV : Below W0.heap.size W0 V) (ho : atomsP e ats = none) => (show EvPost rb B p inp fuel m W (sideF p inp n 2 nn ats ks bl e s) (.panicked (stopV 4)) V from by
    rw [sideF_none ho]
    have hb : Below W.heap.size W V := hb0.trans (hV.mono (Nat.le_of_lt hs0))
    exact .stuck (Evo.below hb) (hg.below hb) (thrown_one _ _)))
  have HW := Lib.hid (fun (V : World) (hV : Below W0.heap.size W0 V) => (show Below W.heap.size W V from hb0.trans (hV.mono (Nat.le_of_lt hs0))))
  have HL := Lib.hid (fun (l : List PV) (ho : atomsP e ats = some l) => atomsP_len ats l ho)
  have HE := Lib.hid (fun (V : World) (l : List PV) (A : Option Addr) (cap : Nat) (hV : Below W.heap.size W V) (ho : sideF p inp n 2 nn ats ks bl e s = rhsF p.funs inp (evF p.funs inp n) 2 nn l ks bl e s) (hr : RowZ rb m V l A) (hl : l.length = ats.length) => (show Calls Try.prog 67 #[.pointer (some ⟨rb, 0, none⟩), .int .i64 nn, .slice A l.length cap] V (EvPost rb B p inp fuel m W (sideF p inp n 2 nn ats ks bl e s)) from by
    have hp : 0 < l.length := by rw [hl, h1]; split <;> omega
    obtain ⟨g, F, rfl, q2, q3, q4, q5⟩ := hr hp
    have hgV := hg.below hV
    rw [ho, show rhsF p.funs inp (evF p.funs inp n) 2 nn l ks bl e s = primF p.funs inp (evF p.funs inp n) nn l s by simp [rhsF]]
    exact (prim_any hok hwf hgV hn hs h2.1 h2.2 (l := l) (g := g) (cap := cap) (F := F) (by rw [hl, h1]) ⟨q2, q3, q4, q5⟩).mono fun en V' h => h.from_ (Evo.below hV)))
  obtain ⟨out, hout⟩ : ∃ o, sideF p inp n 2 nn ats ks bl e s = o := ⟨_, rfl⟩
  rw [hout] at HE
  rw [hout] at HST ⊢
  have HO := Lib.hid hout
  clear hout hE0 hs0 hb0 c0 c1 c3 c4 ha hg he h1 hok hwf h2
  go_enter Try.func53, Try.ntmps53
  go_wp2_with fail
  refine HA.out.mono ?_
  rintro en w' (⟨l, A, cap, hv, rfl, hlc, hrow, hw⟩ | ⟨hv, rfl, hw⟩)
  rotate_left
  · exact ⟨rfl, HST.out _ hw hv⟩
  have hll := HL.out l hv
  have ho := HO.out.symm.trans (sideF_some hv)
  obtain ⟨d0, d1, d3, d4⟩ := HR.out w' hw
  have HWW := Lib.hid (HW.out w' hw)
  clear HA HST HR HL HW HO hv hw hW0 c2
  have HQ := Lib.hid (HE.out w' l A cap HWW.out ho hrow hll)
  clear hrow ho hll HE HWW d3 d4
  go_wp2_with fail
  refine HQ.out.mono ?_
  intro en V' h
  rcases h.ends with ⟨g', rfl, hP⟩ | ⟨ch, rfl, hP⟩
  · go_wp2_with fail
    go_ret
    exact hP
  · exact ⟨rfl, hP⟩

end
end Go.Proofs.Ytnobggabjpcbfaa

/-
  The flat evaluator: switches; a right side of any kind.
-/
set_option linter.unusedVariables false
set_option linter.unusedSimpArgs false
namespace Go.Proofs.Ytnobggabjpcbfaa
open Go.RowKit

theorem whichAt_found {ks : List Int} {key : Int} {j : Nat} (hj : j < ks.length) (h : nth ks j = key) (hn : ∀ i, i < j → nth ks i ≠ key) : whichAt ks key = j + 1 := by
  have : ks.findIdx? (· == key) = some j := by
    rw [List.findIdx?_eq_some_iff_getElem]
    refine ⟨hj, by rw [nth_eq ks hj] at h; simp [h], fun i hi => ?_⟩
    have := hn i hi
    rw [nth_eq ks (by omega)] at this
    simpa using this
  simp [whichAt, this]
theorem whichAt_none {ks : List Int} {key : Int} (hn : ∀ i, i < ks.length → nth ks i ≠ key) : whichAt ks key = 0 := by
  have : ks.findIdx? (· == key) = none := by
    rw [List.findIdx?_eq_none_iff]
    intro x hx
    obtain ⟨i, hi, rfl⟩ := List.getElem_of_mem hx
    have := hn i hi
    rw [nth_eq ks hi] at this
    simpa using this
  simp [whichAt, this]


/-- blocks in memory -/
def BlocksIn (B : Nat) (W : World) (Al : Option Addr) (bl : List Anf) : Prop :=
  bl.length * 40 ≤ 140737488351232 ∧ ∀ j (h : j < bl.length), ∃ bb oo g0 g1 g2, Al = some ⟨bb, oo, none⟩ ∧ bb < B ∧ W.cell? ⟨bb, oo + j * 3, none⟩ = some g0 ∧ W.cell? ⟨bb, oo + j * 3 + 1, none⟩ = some g1 ∧ W.cell? ⟨bb, oo + j * 3 + 2, none⟩ = some g2 ∧ BodyIn B W bl[j] #[g0, g1, g2]
section
variable {rb B : Nat} {p : FlatP} {inp : List Int} {fuel n : Nat} {s : FSt} {m : Mem} {W : World}

set_option maxRecDepth 100000 in
set_option maxHeartbeats 4000000 in
theorem side_switch (hok : BodyOk rb B p inp fuel n) (hn : s.left < n) (hg : Good rb B p inp fuel s m W) {ats : List Atm} {ks : List Int} {bl : List Anf} {Aa Ak Al : Option Addr} {ca ck cb : Nat} {e : PEnv} {ge : Value} (he : EnvIn rb m W e ge) (ha : AtomsIn W.heap.size W Aa ats) (nn : Int) (h1 : ats.length = 1) (h2 : bl.length = ks.length + 1) (hk : IntsIn W.heap.size W Ak ks) (hkc : ks.length ≤ ck) (hbl : BlocksIn B W Al bl) (hblc : bl.length ≤ cb) (hwb : ∀ c ∈ bl, WfA p.funs.length c):
    Calls Try.prog 53 #[.pointer (some ⟨rb, 0, none⟩), .agg #[.int .i64 8, .int .i64 nn, .slice Aa ats.length ca, .slice Ak ks.length ck, .slice Al bl.length cb], ge] W (EvPost rb B p inp fuel m W (sideF p inp n 8 nn ats ks bl e s)) := by
  obtain ⟨pk, rfl⟩ := he.shape
  obtain ⟨W0, hW0⟩ : ∃ W0, W.alloc (.cells #[.int .i64 8, .int .i64 nn, .slice Aa ats.length ca, .slice Ak ks.length ck, .slice Al bl.length cb] 52) = W0 := ⟨_, rfl⟩
  have hb0 : Below W.heap.size W W0 := by rw [← hW0]; exact (Below.refl _ _).alloc (Nat.le_refl _) _
  have hs0 : W.heap.size < W0.heap.size := by rw [← hW0]; simp
  have c0 : W0.cell? ⟨W.heap.size, 0, none⟩ = some (.int .i64 8) := by rw [← hW0, World.cell?_alloc_at _ _ _ _ rfl]; rfl
  have c1 : W0.cell? ⟨W.heap.size, 1, none⟩ = some (.int .i64 nn) := by rw [← hW0, World.cell?_alloc_at _ _ _ _ rfl]; rfl
  have c2 : W0.cell? ⟨W.heap.size, 2, none⟩ = some (.slice Aa ats.length ca) := by rw [← hW0, World.cell?_alloc_at _ _ _ _ rfl]; rfl
  have c3 : W0.cell? ⟨W.heap.size, 3, none⟩ = some (.slice Ak ks.length ck) := by rw [← hW0, World.cell?_alloc_at _ _ _ _ rfl]; rfl
  have c4 : W0.cell? ⟨W.heap.size, 4, none⟩ = some (.slice Al bl.length cb) := by rw [← hW0, World.cell?_alloc_at _ _ _ _ rfl]; rfl
  have HR := Lib.hid (fun (V : World) (hV : Below W0.heap.size W0 V) => (show V.cell? ⟨W.heap.size, 0, none⟩ = some (.int .i64 8) ∧ V.cell? ⟨W.heap.size, 1, none⟩ = some (.int .i64 nn) ∧ V.cell? ⟨W.heap.size, 3, none⟩ = some (.slice Ak ks.length ck) ∧ V.cell? ⟨W.heap.size, 4, none⟩ = some (.slice Al bl.length cb) from
    ⟨(hV.cell (p := ⟨W.heap.size, 0, none⟩) hs0).trans c0, (hV.cell (p := ⟨W.heap.size, 1, none⟩) hs0).trans c1, (hV.cell (p := ⟨W.heap.size, 3, none⟩) hs0).trans c3, (hV.cell (p := ⟨W.heap.size, 4, none⟩) hs0).trans c4⟩))
  have hE0 : Evo rb m m W W0 := Evo.below hb0
  have HA := Lib.hid (show Calls Try.prog 64 #[.pointer pk, .slice Aa ats.length ca] W0 (AtomsPost rb m W0 (atomsP e ats)) from
    atoms_any (fun k hk => Nat.lt_of_lt_of_le (hg.mutLt hk) (Nat.le_of_lt hs0)) (he.evo hE0) ((ha.below hb0).mono (Nat.le_of_lt hs0)))
  have HST := Lib.hid (fun (V : World) (hV : Below W0.heap.size W0 V) (ho : atomsP e ats = none) => (show EvPost rb B p inp fuel m W (sideF p inp n 8 nn ats ks bl e s) (.panicked (stopV 4)) V from by
    rw [sideF_none ho]
    have hb : Below W.heap.size W V := hb0.trans (hV.mono (Nat.le_of_lt hs0))
    exact .stuck (Evo.below hb) (hg.below hb) (thrown_one _ _)))
  have HW := Lib.hid (fun (V : World) (hV : Below W0.heap.size W0 V) => (show Below W.heap.size W V from hb0.trans (hV.mono (Nat.le_of_lt hs0))))
  have HL := Lib.hid (fun (l : List PV) (ho : atomsP e ats = some l) => atomsP_len ats l ho)
  have hEN := he
  have HE := Lib.hid (fun (V : World) (l : List PV) (A : Option Addr) (hV : Below W.heap.size W V) (ho : sideF p inp n 8 nn ats ks bl e s = rhsF p.funs inp (evF p.funs inp n) 8 nn l ks bl e s) (hr : RowZ rb m V l A) (hl : l.length = 1) => (show ∃ a g T x, A = some ⟨g, 0, none⟩ ∧ V.cell? ⟨g, 0, none⟩ = some (.iface T x) ∧ Calls Try.prog 35 #[.iface T x] V (AskedPost (keyOf a) V) ∧ (keyOf a = none → EvPost rb B p inp fuel m W (sideF p inp n 8 nn ats ks bl e s) (.panicked (stopV 4)) V) ∧
      ∀ key, keyOf a = some key → ∀ j, j < bl.length → whichAt ks key = j → ∃ bb oo A0 n0 d0 v0 v1, Al = some ⟨bb, oo, none⟩ ∧ V.cell? ⟨bb, oo + j * 3, none⟩ = some (.slice A0 n0 d0) ∧ V.cell? ⟨bb, oo + j * 3 + 1, none⟩ = some (.bool v0) ∧ V.cell? ⟨bb, oo + j * 3 + 2, none⟩ = some (.int .i64 v1) ∧
        Calls Try.prog 36 #[.pointer (some ⟨rb, 0, none⟩), .agg #[.slice A0 n0 d0, .bool v0, .int .i64 v1], .pointer pk] V (EvPost rb B p inp fuel m W (sideF p inp n 8 nn ats ks bl e s)) from by
    obtain ⟨a, g, T, x, rfl, q2, q3, q4, q5, q6⟩ := hr.one hl
    have hgV := hg.below hV
    have hE := Evo.below (rb := rb) (m := m) hV
    refine ⟨a, g, T, x, q2, q5, key_any q6, fun hk0 => ?_, fun key hk0 j hj hwa => ?_⟩
    · rw [ho, show rhsF p.funs inp (evF p.funs inp n) 8 nn [a] ks bl e s = (.stuck, s) by simp [rhsF, hk0]]
      exact .stuck hE hgV (thrown_one _ _)
    · obtain ⟨bb, oo, g0, g1, g2, e1, e2, e3, e4, e5, hbd⟩ := hbl.2 j hj
      have hbB := hV.mono hg.Bs
      have hbd2 := hbd.kept hbB
      obtain ⟨A0, d0, b0, o0, hvv, -⟩ := hbd.at_
      simp only [Array.mk.injEq, List.cons.injEq, and_true] at hvv
      obtain ⟨rfl, rfl, rfl⟩ := hvv
      refine ⟨bb, oo, A0, _, d0, _, _, e1, (hbB.cell (p := ⟨_, _, none⟩) e2).trans e3, (hbB.cell (p := ⟨_, _, none⟩) e2).trans e4, (hbB.cell (p := ⟨_, _, none⟩) e2).trans e5, ?_⟩
      rw [ho, show rhsF p.funs inp (evF p.funs inp n) 8 nn [a] ks bl e s = evF p.funs inp n bl[j] e s by simp [rhsF, hk0, hwa, hj]]
      exact (hok _ _ _ m V _ _ hbd2 (hwb _ (List.getElem_mem hj)) (hEN.evo hE) hgV hn).mono fun en V' h => h.from_ hE))
  have h1' := Lib.hid h1
  have H2 := Lib.hid h2
  have HK := Lib.hid (fun (V : World) (hV : Below W.heap.size W V) (j : Nat) (hj : j < ks.length) => (show ∃ bk ok, Ak = some ⟨bk, ok, none⟩ ∧ V.cell? ⟨bk, ok + j, none⟩ = some (.int .i64 (nth ks j)) from by
    obtain ⟨bk, ok, h1, h2, h3⟩ := hk.at_ (by omega)
    exact ⟨bk, ok, h1, (hV.cell (p := ⟨_, _, none⟩) h2).trans (h3 j hj)⟩))
  have hk64 := hk.1
  have hb64 := hbl.1
  obtain ⟨out, hout⟩ : ∃ o, sideF p inp n 8 nn ats ks bl e s = o := ⟨_, rfl⟩
  rw [hout] at HE
  rw [hout] at HST ⊢
  have HO := Lib.hid hout
  clear hout hE0 hs0 hb0 c0 c1 c3 c4 ha hg he h1 hok hEN hk hbl hwb hn h2
  go_enter Try.func53, Try.ntmps53
  go_wp2_with fail
  refine HA.out.mono ?_
  rintro en w' (⟨l, A, cap, hv, rfl, hlc, hrow, hw⟩ | ⟨hv, rfl, hw⟩)
  rotate_left
  · exact ⟨rfl, HST.out _ hw hv⟩
  have hll := HL.out l hv
  have ho := HO.out.symm.trans (sideF_some hv)
  obtain ⟨d0, d1, d3, d4⟩ := HR.out w' hw
  have HWW := Lib.hid (HW.out w' hw)
  clear HA HST HR HL HW HO hv hw hW0 c2
  obtain ⟨a, g, T, x, rfl, q0, hkey, hnone, hsome⟩ := HE.out w' l A HWW.out ho hrow (by rw [hll, h1'.out])
  have hl1 : l.length = 1 := by rw [hll, h1'.out]
  rw [hl1] at hlc ⊢
  have HKEY := Lib.hid hkey
  have HNO := Lib.hid hnone
  have HSO := Lib.hid hsome
  have HKK := Lib.hid (HK.out w' HWW.out)
  clear hrow ho hll hl1 HE HWW hkey hnone hsome HK
  obtain ⟨KL, hKL⟩ : ∃ L, ks.length = L := ⟨_, rfl⟩
  have HKL := Lib.hid hKL
  have h2 := H2.out
  rw [h2] at d4 hblc hb64
  rw [hKL] at d3 d4 hkc hk64 hblc hb64
  clear h2 hKL
  go_wp2_with (go_at_call 35; refine HKEY.out.mono ?_; rintro en V' (⟨key, hkk, rfl, rfl⟩ | ⟨hkk, rfl, rfl⟩); rotate_left; exact ⟨rfl, HNO.out hkk⟩)
  have HSK := Lib.hid (HSO.out key hkk)
  clear HSO HNO HKEY hkk
  go_loopw [65] (fun iv wr => ∃ j : Nat, j ≤ KL ∧ iv = .int .i64 (j : Int) ∧ wr = w' ∧ Hid (∀ i, i < j → nth ks i ≠ key)) (fun iv _ => KL + 1 - (intOf iv).toNat)
  case atStart => exact ⟨0, by omega, rfl, rfl, Lib.hid (fun i hi => by omega)⟩
  case round =>
    obtain ⟨j, hj, rfl, rfl, HNE⟩ := hrel
    by_cases hlt : j < KL
    · obtain ⟨bk, ok, rfl, kc⟩ := HKK.out j (by rw [HKL.out]; exact hlt)
      have hj0 : (0 : Int) ≤ (j : Int) := by omega
      have hjk : (j : Int) < (KL : Int) := by omega
      have w1 : IntKind.i64.wrap ((j : Int) + 1) = (j : Int) + 1 := by rw [IntKind.wrap_i64]; omega
      have w1' : IntKind.i64.wrap (1 + (j : Int)) = 1 + (j : Int) := by rw [IntKind.wrap_i64]; omega
      by_cases heq : nth ks j = key
      · have hb : (nth ks j == key) = true := by simpa using heq
        obtain ⟨bb, oo, A0, n0, dd0, v0, v1, rfl, y0, y1, y2, hC⟩ := HSK.out (j + 1) (by rw [H2.out, HKL.out]; omega) (whichAt_found (by rw [HKL.out]; exact hlt) heq HNE.out)
        have HC := Lib.hid hC
        have w2 : (0 : Int) ≤ 1 + (j : Int) := by omega
        have w3 : 1 + (j : Int) < (KL : Int) + 1 := by omega
        have w4 : (1 + (j : Int)).toNat = j + 1 := by omega
        have w5 : (KL : Int) + 1 ≤ (cb : Int) := by omega
        clear hC heq
        go_wp2_with fail
        refine HC.out.mono ?_
        intro en V' h
        rcases h.ends with ⟨g', rfl, hP⟩ | ⟨ch, rfl, hP⟩
        · go_wp2_with fail
          go_ret
          exact hP
        · exact ⟨rfl, hP⟩
      · have hb : (nth ks j == key) = false := by simpa using heq
        have HN2 := Lib.hid (show ∀ i, i < j + 1 → nth ks i ≠ key from fun i hi => by
          by_cases hij : i = j
          · subst hij; exact heq
          · exact HNE.out i (by omega))
        clear heq
        go_wp2_with fail
        go_roundw
        case rel => exact ⟨j + 1, by omega, by go_num, (by first | rfl | trivial), HN2⟩
        case measure => simp [intOf]; omega
    · have hjk : j = KL := by omega
      subst hjk
      obtain ⟨bb, oo, A0, n0, dd0, v0, v1, rfl, y0, y1, y2, hC⟩ := HSK.out 0 (by rw [H2.out]; omega) (whichAt_none (by rw [HKL.out]; exact HNE.out))
      have HC := Lib.hid hC
      have w2 : (0 : Int) < (j : Int) + 1 := by omega
      have w5 : (j : Int) + 1 ≤ (cb : Int) := by omega
      simp only [Nat.zero_mul, Nat.add_zero] at y0 y1 y2
      clear hC
      go_wp2_with fail
      refine HC.out.mono ?_
      intro en V' h
      rcases h.ends with ⟨g', rfl, hP⟩ | ⟨ch, rfl, hP⟩
      · go_wp2_with fail
        go_ret
        exact hP
      · exact ⟨rfl, hP⟩

theorem side_any (hok : BodyOk rb B p inp fuel n) (hwf : ∀ g ∈ p.funs, WfA p.funs.length g.body) (hn : s.left < n) (hs : s.out.length + s.left < fuel) (hg : Good rb B p inp fuel s m W) {x k nn : Int} {ats : List Atm} {ks : List Int} {bl : List Anf} {Aa Ak Al : Option Addr} {ca ck cb : Nat} {e : PEnv} {ge : Value} (he : EnvIn rb m W e ge) (hb : BindOk p.funs.length x k nn ats ks bl.length) (hk10 : k ≠ 10)
    (ha : AtomsIn W.heap.size W Aa ats) (hk : IntsIn W.heap.size W Ak ks) (hkc : ks.length ≤ ck) (hbl : BlocksIn B W Al bl) (hblc : bl.length ≤ cb) (hwb : ∀ c ∈ bl, WfA p.funs.length c) :
    Calls Try.prog 53 #[.pointer (some ⟨rb, 0, none⟩), .agg #[.int .i64 k, .int .i64 nn, .slice Aa ats.length ca, .slice Ak ks.length ck, .slice Al bl.length cb], ge] W (EvPost rb B p inp fuel m W (sideF p inp n k nn ats ks bl e s)) := by
  rcases hb.kind with rfl | rfl | rfl | rfl | rfl | rfl | rfl | rfl
  · exact side_atom hg he ha nn (hb.one (.inl rfl))
  · exact side_prim hok hwf (by omega) hs hg he ha nn hb.primL (hb.prim rfl)
  · exact side_block hg he ha nn hb.block
  · exact side_field hg he ha nn (hb.one (.inr (.inl rfl))) hb.field
  · exact side_app hok hwf (by omega) hg he ha nn hb.app
  · exact side_switch hok hn hg he ha nn (hb.one (.inr (.inr rfl))) hb.switch hk hkc hbl hblc hwb
  · exact side_close hg he ha nn hb.close
  · exact absurd rfl hk10

end
end Go.Proofs.Ytnobggabjpcbfaa

/-
  The flat evaluator: bodies.
-/
set_option linter.unusedVariables false
set_option linter.unusedSimpArgs false
namespace Go.Proofs.Ytnobggabjpcbfaa
open Go.RowKit

section
variable {rb B : Nat} {p : FlatP} {inp : List Int} {fuel n : Nat} {s : FSt} {m : Mem} {W : World}
theorem evF_ret (funs : List FFun) (inp : List Int) {k : Nat} (hk : 0 < k) (a : Atm) (e : PEnv) (s : FSt) : evF funs inp k (.ret a) e s = match atomP e a with | some v => (.val v, s) | none => (.stuck, s) := by
  obtain ⟨k, rfl⟩ : ∃ q, k = q + 1 := ⟨k - 1, by omega⟩
  rfl
theorem evF_cut (funs : List FFun) (inp : List Int) {k : Nat} (hk : 0 < k) (x kd nn : Int) (ats : List Atm) (ks : List Int) (bl : List Anf) (rest : Anf) (e : PEnv) (s : FSt) (h : s.left = 0) : evF funs inp k (.bind x kd nn ats ks bl rest) e s = (.cut, s) := by
  obtain ⟨k, rfl⟩ : ∃ q, k = q + 1 := ⟨k - 1, by omega⟩
  unfold evF
  rw [if_pos h]
theorem evF_group (funs : List FFun) (inp : List Int) {k : Nat} (x nn : Int) (ats : List Atm) (ks : List Int) (bl : List Anf) (rest : Anf) (e : PEnv) (s : FSt) (h : 0 < s.left) :
    evF funs inp (k + 1) (.bind x 10 nn ats ks bl rest) e s = match atomsP (groupEnv ks s.made.length e) ats with | some l => evF funs inp k rest (groupEnv ks s.made.length e) { s with left := s.left - 1, made := s.made ++ groupMade ks l } | none => (.stuck, { s with left := s.left - 1 }) := by
  show (if s.left = 0 then _ else _) = _
  rw [if_neg (by omega)]
  simp only [bindF, if_true]
  cases atomsP (groupEnv ks s.made.length e) ats <;> rfl
theorem evF_side (p : FlatP) (inp : List Int) {k : Nat} (x kd nn : Int) (ats : List Atm) (ks : List Int) (bl : List Anf) (rest : Anf) (e : PEnv) (s : FSt) (h : 0 < s.left) (hk : kd ≠ 10) :
    evF p.funs inp (k + 1) (.bind x kd nn ats ks bl rest) e s = FOut.andThen (sideF p inp k kd nn ats ks bl e { s with left := s.left - 1 }) fun v s => evF p.funs inp k rest ((x, v) :: e) s := by
  show (if s.left = 0 then _ else _) = _
  rw [if_neg (by omega)]
  simp only [bindF, if_neg hk, sideF]
  cases atomsP e ats <;> rfl

theorem sideF_le (inp : List Int) (n : Nat) (k nn : Int) (ats : List Atm) (ks : List Int) (bl : List Anf) (e : PEnv) (s : FSt) : LeF s (sideF p inp n k nn ats ks bl e s).2 1 := by
  unfold sideF
  cases atomsP e ats with
  | some l => exact rhsF_le (funs := p.funs) (inp := inp) (evF_le p.funs inp n) k nn l ks bl e s
  | none => exact LeF.refl _ _
theorem WfA.tail {nf : Nat} : ∀ {t : Anf}, WfA nf t → ∀ j, WfA nf (t.tail j)
  | t, h, 0 => by rw [Anf.tail_zero]; exact h
  | .ret a, h, j + 1 => h
  | .bind _ _ _ _ _ _ r, h, j + 1 => by
    cases h with
    | bind _ _ hr => exact hr.tail j
/-- what stands behind some binds -/
structure BodyAt (rb B : Nat) (p : FlatP) (inp : List Int) (fuel n : Nat) (m : Mem) (W W0 : World) (t : Anf) (out : FOut) (j : Nat) (kv : Value) (wr : World) (e : PEnv) (s : FSt) (mj : Mem) (k : Nat) : Prop where
  env : EnvIn rb mj wr e kv
  good : Good rb B p inp fuel s mj wr
  evo : Evo rb m mj W0 wr
  out : out = evF p.funs inp k (t.tail j) e s
  lt : s.left < k
  le : k ≤ n
set_option maxRecDepth 100000 in
set_option maxHeartbeats 4000000 in
theorem body_step (hok : ∀ k, k < n → BodyOk rb B p inp fuel k) (hwf : ∀ g ∈ p.funs, WfA p.funs.length g.body) : BodyOk rb B p inp fuel n := by
  intro t e s m W ga ge hin hwt he hg hn
  obtain ⟨A, c, b, o, rfl, hc, h96, hA, hB⟩ := hin.at_
  obtain ⟨pk, rfl⟩ := he.shape
  obtain ⟨W0, hW0⟩ : ∃ W0, W.alloc (.cells #[.slice A t.len c, .bool t.last.v, .int .i64 t.last.n] 27) = W0 := ⟨_, rfl⟩
  have hb0 : Below W.heap.size W W0 := by rw [← hW0]; exact (Below.refl _ _).alloc (Nat.le_refl _) _
  have hE0 : Evo rb m m W W0 := Evo.below hb0
  have hat : At rb m W0 W.heap.size (.cells #[.slice A t.len c, .bool t.last.v, .int .i64 t.last.n] 27 (0, 0)) := by rw [← hW0]; exact at_new (fun k hk => hg.mutLt hk) _ _
  have HC := Lib.hid (fun (V : World) (m' : Mem) (hE : Evo rb m m' W0 V) => (show V.cell? ⟨W.heap.size, 0, none⟩ = some (.slice A t.len c) ∧ V.cell? ⟨W.heap.size, 1, none⟩ = some (.bool t.last.v) ∧ V.cell? ⟨W.heap.size, 2, none⟩ = some (.int .i64 t.last.n) from
    ⟨at_cell0 (hat.evo hE) rfl, at_cell0 (hat.evo hE) rfl, at_cell0 (hat.evo hE) rfl⟩))
  have c0 := ((HC.out W0 m (Evo.refl _ _ _))).1
  have HBI := Lib.hid (fun (j : Nat) (hj : j < t.len) (V : World) (m' : Mem) (hE : Evo rb m m' W0 V) =>
    (show ∃ x k nn ats ks bl Aa ca Ak ck Al cl, A = some ⟨b, o, none⟩ ∧ t.tail j = .bind x k nn ats ks bl (t.tail (j + 1)) ∧ V.cell? ⟨b, o + j * 6, none⟩ = some (.int .i64 x) ∧ V.cell? ⟨b, o + j * 6 + 1, none⟩ = some (.int .i64 k) ∧ V.cell? ⟨b, o + j * 6 + 2, none⟩ = some (.int .i64 nn) ∧
        V.cell? ⟨b, o + j * 6 + 3, none⟩ = some (.slice Aa ats.length ca) ∧ V.cell? ⟨b, o + j * 6 + 4, none⟩ = some (.slice Ak ks.length ck) ∧ V.cell? ⟨b, o + j * 6 + 5, none⟩ = some (.slice Al bl.length cl) ∧
        BindOk p.funs.length x k nn ats ks bl.length ∧ AtomsIn B V Aa ats ∧ IntsIn B V Ak ks ∧ ks.length ≤ ck ∧ BlocksIn B V Al bl ∧ bl.length ≤ cl ∧ (∀ c ∈ bl, WfA p.funs.length c) from by
      obtain ⟨x, k, nn, ats, ks, bl, Aa, ca, Ak, ck, Al, cl, h1, h2⟩ := hB j hj
      have hbV : Below B W V := (hb0.mono hg.Bs).trans ((hg.below hb0).stay hE)
      have hw : WfA p.funs.length (.bind x k nn ats ks bl (t.tail (j + 1))) := by rw [← h1]; exact hwt.tail j
      cases hw with
      | bind hbe hbb hbr =>
        refine ⟨x, k, nn, ats, ks, bl, Aa, ca, Ak, ck, Al, cl, hA (by omega), h1, (hbV.cell (p := ⟨_, _, none⟩) h2.lt).trans h2.c0, (hbV.cell (p := ⟨_, _, none⟩) h2.lt).trans h2.c1, (hbV.cell (p := ⟨_, _, none⟩) h2.lt).trans h2.c2, (hbV.cell (p := ⟨_, _, none⟩) h2.lt).trans h2.c3, (hbV.cell (p := ⟨_, _, none⟩) h2.lt).trans h2.c4, (hbV.cell (p := ⟨_, _, none⟩) h2.lt).trans h2.c5,
          bindOk_of hbe, h2.ha.below hbV, h2.hk.below hbV, h2.hkc, ⟨h2.hl8, fun q hq => ?_⟩, h2.hlc, hbb⟩
        obtain ⟨bb, oo, g0, g1, g2, e1, e2, e3, e4, e5, hbd⟩ := h2.blk q hq
        exact ⟨bb, oo, g0, g1, g2, e1, e2, (hbV.cell (p := ⟨_, _, none⟩) e2).trans e3, (hbV.cell (p := ⟨_, _, none⟩) e2).trans e4, (hbV.cell (p := ⟨_, _, none⟩) e2).trans e5, hbd.kept hbV⟩))
  have HT := Lib.hid (Anf.tail_ret t)
  have HWB := Lib.hid (hg.Bs)
  have HOK := Lib.hid hok
  have HWF := Lib.hid hwf
  have HE0 := Lib.hid hE0
  obtain ⟨out, hout⟩ : ∃ out, evF p.funs inp n t e s = out := ⟨_, rfl⟩
  have hst : BodyAt rb B p inp fuel n m W W0 t out 0 (.pointer pk) W0 e s m n := ⟨he.evo hE0, hg.below hb0, Evo.refl _ _ _, by rw [Anf.tail_zero]; exact hout.symm, hn, Nat.le_refl _⟩
  have HST := Lib.hid hst
  rw [hout]
  clear hst hout hat hB hin he hg hb0 hE0 hok hwf hwt hn hA
  have hT64 : t.len ≤ 2000000000000 := by omega
  obtain ⟨T, hT⟩ : ∃ T, t.len = T := ⟨_, rfl⟩
  rw [hT] at hc h96 hW0 HC c0 HBI HT hT64 ⊢
  clear hT h96
  go_enter Try.func36, Try.ntmps36
  go_wp2_with fail
  go_loopw [2, 12] (fun kv iv wr => ∃ (j : Nat) (e' : PEnv) (s' : FSt) (mj : Mem) (k : Nat), j ≤ T ∧ iv = .int .i64 (j : Int) ∧ Hid (BodyAt rb B p inp fuel n m W W0 t out j kv wr e' s' mj k)) (fun _ iv _ => T + 1 - (intOf iv).toNat)
  case atStart => exact ⟨0, e, s, m, n, by omega, rfl, HST⟩
  case round =>
    obtain ⟨j, e', s', mj, k, hj, rfl, HJ⟩ := hrel
    obtain ⟨pj, rfl⟩ := HJ.out.env.shape
    obtain ⟨q0, q1, q2⟩ := HC.out wr mj HJ.out.evo
    by_cases hlt : j < T
    · obtain ⟨x, kd, nn, ats, ks, bl, Aa, ca, Ak, ck, Al, cl, rfl, htail, r0, r1, r2, r3, r4, r5, hbo, hats, hks, hkc, hbl, hblc, hwb⟩ := HBI.out j hlt wr mj HJ.out.evo
      have hj0 : (0 : Int) ≤ (j : Int) := by omega
      have hjl : (j : Int) < (T : Int) := by omega
      have hjc : (T : Int) ≤ (c : Int) := by omega
      have w1 : IntKind.i64.wrap ((j : Int) + 1) = (j : Int) + 1 := by rw [IntKind.wrap_i64]; omega
      obtain ⟨W1, hW1⟩ : ∃ W1, wr.alloc (.cells #[.int .i64 x, .int .i64 kd, .int .i64 nn, .slice Aa ats.length ca, .slice Ak ks.length ck, .slice Al bl.length cl] 54) = W1 := ⟨_, rfl⟩
      have hb1 : Below wr.heap.size wr W1 := by rw [← hW1]; exact (Below.refl _ _).alloc (Nat.le_refl _) _
      have hE1 : Evo rb mj mj wr W1 := Evo.below hb1
      have hat : At rb mj W1 wr.heap.size (.cells #[.int .i64 x, .int .i64 kd, .int .i64 nn, .slice Aa ats.length ca, .slice Ak ks.length ck, .slice Al bl.length cl] 54 (0, 0)) := by rw [← hW1]; exact at_new (fun k hk => HJ.out.good.mutLt hk) _ _
      have hg1 := HJ.out.good.below hb1
      have HS1 := Lib.hid (step_any hg1)
      have HS := Lib.hid (fun (V : World) (m' : Mem) (hE : Evo rb mj m' W1 V) => (show V.cell? ⟨wr.heap.size, 0, none⟩ = some (.int .i64 x) ∧ V.cell? ⟨wr.heap.size, 1, none⟩ = some (.int .i64 kd) ∧ V.cell? ⟨wr.heap.size, 2, none⟩ = some (.int .i64 nn) ∧ V.cell? ⟨wr.heap.size, 3, none⟩ = some (.slice Aa ats.length ca) ∧ V.cell? ⟨wr.heap.size, 4, none⟩ = some (.slice Ak ks.length ck) ∧ V.cell? ⟨wr.heap.size, 5, none⟩ = some (.slice Al bl.length cl) from
        ⟨at_cell0 (hat.evo hE) rfl, at_cell0 (hat.evo hE) rfl, at_cell0 (hat.evo hE) rfl, at_cell0 (hat.evo hE) rfl, at_cell0 (hat.evo hE) rfl, at_cell0 (hat.evo hE) rfl⟩))
      obtain ⟨k, rfl⟩ : ∃ q, k = q + 1 := ⟨k - 1, by have := HJ.out.lt; omega⟩
      have HEW := Lib.hid (fun (V : World) (m' : Mem) (hE : Evo rb mj m' W1 V) => (show Evo rb m m' W V from (HE0.out.trans HJ.out.evo).trans (hE1.trans hE)))
      have HE1 := Lib.hid hE1
      have HOUT := Lib.hid (HJ.out.out.trans (congrArg (fun t => evF p.funs inp (k + 1) t e' s') htail))
      have hltk := HJ.out.lt
      have hlek := HJ.out.le
      have HENV := Lib.hid (HJ.out.env.evo hE1)
      have HBL := Lib.hid hbl
      have HAT := Lib.hid hats
      have HKS := Lib.hid hks
      have HBO := Lib.hid hbo
      have HB1 := Lib.hid (hg1.stay (Evo.refl rb mj W1))
      have HBW := Lib.hid (HJ.out.good.stay hE1)
      have HBS := Lib.hid hg1.Bs
      have HBN := Lib.hid hg1.bnd
      clear hb1 hE1 hat hg1 htail hbl hats hks hbo
      go_wp2_with fail
      refine HS1.out.mono ?_
      rintro en V2 (⟨hl, rfl, hg2, hE2⟩ | ⟨hl, rfl, hg2, hE2⟩)
      rotate_left
      · refine ⟨rfl, ?_⟩
        rw [HOUT.out, evF_cut _ _ (by omega) _ _ _ _ _ _ _ _ _ hl]
        exact .cut (HEW.out _ _ hE2) hg2 (thrown_one _ _)
      have HLEFT := Lib.hid hl
      obtain ⟨x0, x1, x2, x3, x4, x5⟩ := HS.out V2 mj hE2
      have hBV : Below B wr V2 := (HBW.out).trans ⟨hE2.os, hE2.tape, hE2.output, hE2.size, fun q hq => hE2.same q (Nat.lt_of_lt_of_le hq HBS.out) (fun hm => by have := hg2.mutB hm; omega)⟩
      have hB2 := hg2.Bs
      by_cases hk10 : kd = 10
      · subst hk10
        obtain ⟨q, hgok⟩ := HBO.out.group_
        have HG := Lib.hid (group_any hg2 hgok (Aa := Aa) (ca := ca) (Al := Al) (lb := bl.length) (cb := cl) ((HAT.out.below hBV).mono hB2) ((HKS.out.below hBV).mono hB2) hkc (HENV.out.evo hE2) 10 nn)
        have HG2 := Lib.hid hg2
        have HE2 := Lib.hid hE2
        clear hgok hg2 hE2 hBV hB2 hl
        go_wp2_with fail
        refine HG.out.mono ?_
        rintro en V3 (⟨l, m3, pp, hv, rfl, hE3, hg3, hen⟩ | ⟨hv, rfl, hb3⟩)
        · have HN := Lib.hid (show BodyAt rb B p inp fuel n m W W0 t out (j + 1) (.pointer pp) V3 (groupEnv ks s'.made.length e') { s' with left := s'.left - 1, made := s'.made ++ groupMade ks l } m3 k from
            ⟨hen, hg3, HJ.out.evo.trans ((HE1.out.trans HE2.out).trans hE3), by rw [HOUT.out, evF_group _ _ _ _ _ _ _ _ _ _ HLEFT.out]; simp only [hv], by have := HLEFT.out; show s'.left - 1 < k; omega, by omega⟩)
          clear hen hg3 hE3 hv
          go_wp2_with fail
          go_roundw
          case rel => exact ⟨j + 1, _, _, m3, k, by omega, by go_num, HN⟩
          case measure => simp [intOf]; omega
        · refine ⟨rfl, ?_⟩
          rw [HOUT.out, evF_group _ _ _ _ _ _ _ _ _ _ HLEFT.out]
          simp only [hv]
          exact .stuck (HEW.out _ _ (HE2.out.trans (Evo.below hb3))) (HG2.out.below hb3) (thrown_one _ _)
      · have hkb : (kd == 10) = false := by simpa using hk10
        have HSI := Lib.hid (fun (V : World) (hV : Below V2.heap.size V2 V) => (show Calls Try.prog 53 #[.pointer (some ⟨rb, 0, none⟩), .agg #[.int .i64 kd, .int .i64 nn, .slice Aa ats.length ca, .slice Ak ks.length ck, .slice Al bl.length cl], .pointer pj] V fun en V' =>
            (∃ v s3 m3 T' y, Evo rb mj m3 W1 V' ∧ en = .returned (.iface T' y) ∧ Good rb B p inp fuel s3 m3 V' ∧ RepV rb m3 V' v (.iface T' y) ∧ sideF p inp k kd nn ats ks bl e' { s' with left := s'.left - 1 } = (.val v, s3)) ∨ (∃ ch m3, Evo rb mj m3 W1 V' ∧ en = .panicked ch ∧ EvPost rb B p inp fuel m W out (.panicked ch) V') from by
          have hEV : Evo rb mj mj V2 V := Evo.below hV
          have hBB := hBV.trans (hV.mono hB2)
          have hBV2 := Nat.le_trans hB2 hV.size
          refine (side_any (HOK.out k (by omega)) HWF.out (by show s'.left - 1 < k; omega) (by have := HBN.out; show s'.out.length + (s'.left - 1) < fuel; omega) (hg2.below hV) ((HENV.out.evo hE2).evo hEV) HBO.out hk10 ((HAT.out.below hBB).mono hBV2) ((HKS.out.below hBB).mono hBV2) hkc
            ⟨HBL.out.1, fun q hq => ?_⟩ hblc hwb).mono fun en V' h => ?_
          · obtain ⟨bb, oo, g0, g1, g2, e1, e2, e3, e4, e5, hbd⟩ := HBL.out.2 q hq
            exact ⟨bb, oo, g0, g1, g2, e1, e2, (hBB.cell (p := ⟨_, _, none⟩) e2).trans e3, (hBB.cell (p := ⟨_, _, none⟩) e2).trans e4, (hBB.cell (p := ⟨_, _, none⟩) e2).trans e5, hbd.kept hBB⟩
          · obtain ⟨mE, hmE⟩ := h.evo
            rcases h.inv with ⟨v, s3, m3, T', y, h1, rfl, h3, h4, h5⟩ | ⟨ch, rfl, h2, h3, h4⟩
            · exact .inl ⟨v, s3, m3, T', y, hE2.trans (hEV.trans h3), rfl, h4, h5, h1⟩
            · refine .inr ⟨ch, mE, hE2.trans (hEV.trans hmE), rfl, ?_⟩
              rw [HOUT.out, evF_side _ _ _ _ _ _ _ _ _ _ _ HLEFT.out hk10]
              exact (h4 _).from_ (HEW.out _ _ (hE2.trans hEV))))
        have HE2 := Lib.hid hE2
        clear hg2 hE2 hBV hB2 hl
        go_wp2_with fail
        go_region_held2 (fun V => V.cell? ⟨wr.heap.size, 0, none⟩ = some (.int .i64 x) ∧ V.cell? ⟨wr.heap.size, 1, none⟩ = some (.int .i64 kd) ∧ V.cell? ⟨wr.heap.size, 2, none⟩ = some (.int .i64 nn) ∧ V.cell? ⟨wr.heap.size, 3, none⟩ = some (.slice Aa ats.length ca) ∧ V.cell? ⟨wr.heap.size, 4, none⟩ = some (.slice Ak ks.length ck) ∧ V.cell? ⟨wr.heap.size, 5, none⟩ = some (.slice Al bl.length cl))
          (first | exact HS.out _ _ HE2.out.drew | exact HS.out _ _ hEV | exact HS.out _ _ (hEV.trans (Evo.alloc _ _ _ _)))
          ((go_at_call 53; refine (HSI.out _ (Below.refl _ _).drew).mono ?_; rintro en V' (⟨v, s3, m3, T', y, hEV, rfl, hg3, hrv, hsv⟩ | ⟨ch, m3, hEV, rfl, hP⟩); rotate_left; exact ⟨rfl, hP⟩))
        all_goals
          have hle := sideF_le (p := p) inp k kd nn ats ks bl e' { s' with left := s'.left - 1 }
          rw [hsv] at hle
          have hle2 := hle.left
          have HN := Lib.hid (show BodyAt rb B p inp fuel n m W W0 t out (j + 1) (.pointer (some ⟨V'.heap.size, 0, none⟩)) (V'.alloc (.cells #[.int .i64 x, .iface T' y, .pointer pj] 99)) ((x, v) :: e') s3 m3 k from
            ⟨.cons (at_new (fun k hk => hg3.mutLt hk) _ _) (hrv.evo (Evo.alloc _ _ _ _)) ((HENV.out.evo hEV).evo (Evo.alloc _ _ _ _)), hg3.below ((Below.refl _ _).alloc (Nat.le_refl _) _), (HJ.out.evo.trans (HE1.out.trans hEV)).trans (Evo.alloc _ _ _ _),
              by rw [HOUT.out, evF_side _ _ _ _ _ _ _ _ _ _ _ HLEFT.out hk10, hsv]; rfl, by have := HLEFT.out; simp only at hle2; omega, by omega⟩)
          clear hle hle2 hg3 hrv hsv hEV
          go_wp2_with fail
          go_roundw
          case rel => exact ⟨j + 1, _, _, m3, k, by omega, by go_num, HN⟩
          case measure => simp [intOf]; omega
    · have hjT : j = T := by omega
      subst hjT
      have hjj : ¬ (j : Int) < (j : Int) := by omega
      have HA := Lib.hid ((atom_any (rb := rb) (m := mj) (W := wr) (V := wr) (Below.refl _ _) HJ.out.env t.last).mono (R' := fun en V => ∃ m', EvPost rb B p inp fuel m W out en V) fun en V h => by
        have ho := HJ.out.out
        rw [HT.out j (Nat.le_refl _), evF_ret _ _ (by have := HJ.out.lt; omega)] at ho
        have hE := HE0.out.trans HJ.out.evo
        refine ⟨mj, ?_⟩
        rcases h with ⟨v, T', x', k1, rfl, k3, k4⟩ | ⟨k1, rfl, k4⟩
        · rw [ho, k1]
          exact .val (hE.trans (Evo.below k4)) (HJ.out.good.below k4) (k3.evo (Evo.below k4))
        · rw [ho, k1]
          exact .stuck (hE.trans (Evo.below k4)) (HJ.out.good.below k4) (thrown_one _ _))
      go_wp2_with fail
      refine HA.out.mono ?_
      rintro en V ⟨-, h⟩
      rcases h.ends with ⟨g', rfl, hP⟩ | ⟨ch, rfl, hP⟩
      · go_wp2_with fail
        go_ret
        exact hP
      · exact ⟨rfl, hP⟩
end
end Go.Proofs.Ytnobggabjpcbfaa

/-
  The flat evaluator: bodies to whatever depth; a run's end.
-/
set_option linter.unusedVariables false
set_option linter.unusedSimpArgs false
namespace Go.Proofs.Ytnobggabjpcbfaa
open Go.RowKit

theorem body_ok (rb B : Nat) (p : FlatP) (inp : List Int) (fuel : Nat) (hwf : ∀ g ∈ p.funs, WfA p.funs.length g.body) (n : Nat) : BodyOk rb B p inp fuel n := by
  induction n using Nat.strongRecOn with
  | _ n ih => exact body_step ih hwf

/-! ### the deferred closure -/
theorem whole1_idle (rv rb : Nat) (x : Value) (V : World) (hr : V.cell? ⟨rv, 0, none⟩ = some (.pointer (some ⟨rb, 0, none⟩))) (h2 : V.cell? ⟨rb, 6, none⟩ = some (.int .i64 0)) (f2 : V.frozen? ⟨rb, 6, none⟩ = false) :
    CallsD Try.prog 34 #[.pointer (some ⟨rv, 0, none⟩)] .returning V fun e u' w' => e = .returned (.tuple #[]) ∧ u' = .returning ∧ w' = V.setCell ⟨rb, 6, none⟩ (.int .i64 1) := by
  refine callsD_of_wpS Try.func34 rfl fun c₀ cs hu => ?_
  apply wpS_seq
  apply wpS_region
  simp [wpOpsS, go_sem, recoverD, hu, Try.ntmps34, Exit.thenS]
  refine wpS_of_wp (Code.wp_mono (Q := fun e a w' => e = .normal ∧ a.defers = [] ∧ w' = V.setCell ⟨rb, 6, none⟩ (.int .i64 1)) ?_ ?_)
  · rintro e a w' ⟨rfl, h1, rfl⟩
    cases c₀
    simp_all [bodyPostS, results, Try.results34]
  simp only [Array.replicate_succ, Array.replicate_zero, List.push_toArray, List.setIfInBounds_toArray, List.set_cons_zero, List.set_cons_succ, List.append_toArray, List.nil_append, List.cons_append]
  clear hu
  go_wp2_with fail

theorem whole1_stop (rv rb : Nat) (k : Int) (older : List PanicEntry) (V : World) (hr : V.cell? ⟨rv, 0, none⟩ = some (.pointer (some ⟨rb, 0, none⟩))) (h2 : V.cell? ⟨rb, 6, none⟩ = some (.int .i64 0)) (f2 : V.frozen? ⟨rb, 6, none⟩ = false) :
    CallsD Try.prog 34 #[.pointer (some ⟨rv, 0, none⟩)] (.panicking ({ v := .iface 76 (.agg #[.int .i64 k]), recovered := false } :: older)) V
      fun e u' w' => e = .returned (.tuple #[]) ∧ u' = .panicking ({ v := .iface 76 (.agg #[.int .i64 k]), recovered := true } :: older) ∧ w' = (V.alloc (.cells #[.int .i64 k] 76)).setCell ⟨rb, 6, none⟩ (.int .i64 k) := by
  have hrl := World.block_lt_of_cell? _ _ hr
  have h2l := World.block_lt_of_cell? _ _ h2
  have hn := World.new_ne _ _ hr
  have hn' := World.new_ne _ _ h2
  refine callsD_of_wpS Try.func34 rfl fun c₀ cs hu => ?_
  apply wpS_seq
  apply wpS_region
  simp [wpOpsS, go_sem, recoverD, hu, Try.ntmps34, Exit.thenS]
  refine wpS_of_wp (Code.wp_mono (Q := fun e a w' => e = .normal ∧ a.defers = [] ∧ w' = (V.alloc (.cells #[.int .i64 k] 76)).setCell ⟨rb, 6, none⟩ (.int .i64 k)) ?_ ?_)
  · rintro e a w' ⟨rfl, h1, rfl⟩
    cases c₀
    simp_all [bodyPostS, results, Try.results34]
  simp only [Array.replicate_succ, Array.replicate_zero, List.push_toArray, List.setIfInBounds_toArray, List.set_cons_zero, List.set_cons_succ, List.append_toArray, List.nil_append, List.cons_append]
  clear hu
  go_wp2_with fail

theorem whole1_raised (rv rb : Nat) (k : Int) (T : TypeId) (y : Value) (older : List PanicEntry) (V : World) (hr : V.cell? ⟨rv, 0, none⟩ = some (.pointer (some ⟨rb, 0, none⟩))) (h2 : V.cell? ⟨rb, 6, none⟩ = some (.int .i64 0)) (f2 : V.frozen? ⟨rb, 6, none⟩ = false) (h3 : V.cell? ⟨rb, 7, none⟩ = some (.int .i64 0)) (f3 : V.frozen? ⟨rb, 7, none⟩ = false) (hne : rv ≠ rb)
    (hkey : Calls Try.prog 35 #[.iface T y] ((V.setCell ⟨rb, 6, none⟩ (.int .i64 4)).alloc (.cells #[.iface T y] 80)) fun e w' => e = .returned (.int .i64 k) ∧ (V.setCell ⟨rb, 6, none⟩ (.int .i64 4)).alloc (.cells #[.iface T y] 80) = w') :
    CallsD Try.prog 34 #[.pointer (some ⟨rv, 0, none⟩)] (.panicking ({ v := .iface 80 (.agg #[.iface T y]), recovered := false } :: older)) V
      fun e u' w' => e = .returned (.tuple #[]) ∧ u' = .panicking ({ v := .iface 80 (.agg #[.iface T y]), recovered := true } :: older) ∧
        w' = if 0 ≤ k then (((V.setCell ⟨rb, 6, none⟩ (.int .i64 4)).alloc (.cells #[.iface T y] 80)).setCell ⟨rb, 6, none⟩ (.int .i64 2)).setCell ⟨rb, 7, none⟩ (.int .i64 k) else (V.setCell ⟨rb, 6, none⟩ (.int .i64 4)).alloc (.cells #[.iface T y] 80) := by
  have hrl := World.block_lt_of_cell? _ _ hr
  have h2l := World.block_lt_of_cell? _ _ h2
  have hn := World.new_ne _ _ hr
  have hn' := World.new_ne _ _ h2
  refine callsD_of_wpS Try.func34 rfl fun c₀ cs hu => ?_
  apply wpS_seq
  apply wpS_region
  simp [wpOpsS, go_sem, recoverD, hu, Try.ntmps34, Exit.thenS]
  refine wpS_of_wp (Code.wp_mono (Q := fun e a w' => e = .normal ∧ a.defers = [] ∧ w' = if 0 ≤ k then (((V.setCell ⟨rb, 6, none⟩ (.int .i64 4)).alloc (.cells #[.iface T y] 80)).setCell ⟨rb, 6, none⟩ (.int .i64 2)).setCell ⟨rb, 7, none⟩ (.int .i64 k) else (V.setCell ⟨rb, 6, none⟩ (.int .i64 4)).alloc (.cells #[.iface T y] 80)) ?_ ?_)
  · rintro e a w' ⟨rfl, h1, rfl⟩
    cases c₀
    simp_all [bodyPostS, results, Try.results34]
  simp only [Array.replicate_succ, Array.replicate_zero, List.push_toArray, List.setIfInBounds_toArray, List.set_cons_zero, List.set_cons_succ, List.append_toArray, List.nil_append, List.cons_append]
  have HK := Lib.hid hkey
  clear hu hkey
  by_cases hk : 0 ≤ k
  · rw [if_pos hk]
    go_wp2_with (go_at_call 35; refine HK.out.mono ?_; rintro e w' ⟨rfl, rfl⟩)
  · rw [if_neg hk]
    have hk' : k < 0 := by omega
    go_wp2_with (go_at_call 35; refine HK.out.mono ?_; rintro e w' ⟨rfl, rfl⟩)

/-- nothing turns but the run's record, of what stood -/
structure Rest (rb : Nat) (V V' : World) : Prop where
  os : V'.os = V.os
  tape : V'.tape = V.tape
  output : V'.output = V.output
  size : V.heap.size ≤ V'.heap.size
  same : ∀ k, k < V.heap.size → k ≠ rb → V'.heap[k]? = V.heap[k]?
theorem Rest.refl (rb : Nat) (V : World) : Rest rb V V := ⟨rfl, rfl, rfl, Nat.le_refl _, fun _ _ _ => rfl⟩
theorem Rest.alloc {rb : Nat} {V V' : World} (h : Rest rb V V') (o : Obj) : Rest rb V (V'.alloc o) :=
  have hb : Below V'.heap.size V' (V'.alloc o) := (Below.refl _ _).alloc (Nat.le_refl _) _
  ⟨h.os, h.tape, h.output, Nat.le_trans h.size hb.size, fun k hk hn => (hb.block k (Nat.lt_of_lt_of_le hk h.size)).trans (h.same k hk hn)⟩
theorem Rest.set {rb : Nat} {V V' : World} (h : Rest rb V V') (o : Nat) (v : Value) : Rest rb V (V'.setCell ⟨rb, o, none⟩ v) :=
  ⟨h.os, h.tape, h.output, by simpa [World.setCell] using h.size, fun k hk hn => (heap_set_ne hn _ _).trans (h.same k hk hn)⟩
theorem Rest.evo {rb : Nat} {V V' V2 : World} (h : Rest rb V V') {m m' : Mem} (hk : Evo rb m m' V' V2) (hm : ∀ k, m.mut rb k → k = rb ∨ V.heap.size ≤ k) : Rest rb V V2 :=
  ⟨hk.os.trans h.os, hk.tape.trans h.tape, hk.output.trans h.output, Nat.le_trans h.size hk.size, fun k hlt hn => (hk.same k (Nat.lt_of_lt_of_le hlt h.size) (fun hx => by rcases hm k hx with e | e; exact hn e; omega)).trans (h.same k hlt hn)⟩
def WholePost (rb B : Nat) (V : World) (pe : PEnd) (e : Ending) (V' : World) : Prop :=
  e = .returned (.tuple #[]) ∧ Rest rb V V' ∧ ∃ f0 f1 f2 f3 x0 x1 vo, V'.heap[rb]? = some (.cells #[f0, f1, f2, f3, x0, x1, .int .i64 pe.kind, .int .i64 pe.n, vo, .int .i64 pe.steps] 62 (0, 0)) ∧ V'.ownsRow B 3 1 vo pe.out.length (pe.out.map (Value.int .i64))

def m0 : Mem := ⟨[], [], .slice none 0 0⟩
theorem m0_mut {rb k : Nat} (h : m0.mut rb k) : k = rb := by
  rcases h with h | h | h
  · exact h
  · simp [m0, Value.ownBlock] at h
  · simp [m0] at h

end Go.Proofs.Ytnobggabjpcbfaa

/-
  The flat evaluator: all of a run.
-/
set_option linter.unusedVariables false
set_option linter.unusedSimpArgs false
namespace Go.Proofs.Ytnobggabjpcbfaa
open Go.RowKit

/-- how the body ends -/
def AllPost (rb B : Nat) (p : FlatP) (inp : List Int) (fuel : Nat) (V : World) (o : FOut) (en : Ending) (V' : World) : Prop :=
  (∃ v s' m' g, o = (.val v, s') ∧ en = .returned g ∧ Evo rb m0 m' V V' ∧ Good rb B p inp fuel s' m' V') ∨ (∃ ch, en = .panicked ch ∧ EvPost rb B p inp fuel m0 V o (.panicked ch) V')

set_option maxRecDepth 100000 in
set_option maxHeartbeats 2000000 in
theorem whole_any {rb B : Nat} {p : FlatP} {inp : List Int} {fuel n : Nat} {V : World} (hg : Good rb B p inp fuel (initF fuel) m0 V) (hwf : ∀ g ∈ p.funs, WfA p.funs.length g.body) (hwm : WfA p.funs.length p.main) (hn : fuel < n) :
    Calls Try.prog 22 #[.pointer (some ⟨rb, 0, none⟩)] V (WholePost rb B V (endF fuel (evF p.funs inp n p.main [] (initF fuel)))) := by
  have hb1 : Below V.heap.size V (V.alloc (.cells #[.pointer (some ⟨rb, 0, none⟩)] 60)) := (Below.refl _ _).alloc (Nat.le_refl _) _
  have hg1 := hg.below hb1
  have hrbl := hg.mutLt (k := rb) (.inl rfl)
  have aV := at_new (fun k hk => hg.mutLt hk) #[.pointer (some ⟨rb, 0, none⟩)] 60
  obtain ⟨f0, f1, f2, f3, Ai, ci, hr, hfl, -, -⟩ := hg1.run
  obtain ⟨Af, cf, b2, o2, mm0, mm1, mm2, hv, k1, k2, k3, k4, k5⟩ := hfl
  simp only [Array.mk.injEq, List.cons.injEq, and_true] at hv
  obtain ⟨rfl, rfl, rfl, rfl⟩ := hv
  obtain ⟨A0, d0, bb0, oo0, hvv, -⟩ := k3.at_
  simp only [Array.mk.injEq, List.cons.injEq, and_true] at hvv
  obtain ⟨rfl, rfl, rfl⟩ := hvv
  have r1 : (V.alloc (.cells #[.pointer (some ⟨rb, 0, none⟩)] 60)).cell? ⟨rb, 1, none⟩ = some (.slice A0 p.main.len d0) := by simp [World.cell?, hr]
  have r2 : (V.alloc (.cells #[.pointer (some ⟨rb, 0, none⟩)] 60)).cell? ⟨rb, 2, none⟩ = some (.bool p.main.last.v) := by simp [World.cell?, hr]
  have r3 : (V.alloc (.cells #[.pointer (some ⟨rb, 0, none⟩)] 60)).cell? ⟨rb, 3, none⟩ = some (.int .i64 p.main.last.n) := by simp [World.cell?, hr]
  have r0 : (V.alloc (.cells #[.pointer (some ⟨rb, 0, none⟩)] 60)).cell? ⟨V.heap.size, 0, none⟩ = some (.pointer (some ⟨rb, 0, none⟩)) := by rw [World.cell?_alloc_at _ _ _ _ rfl]; rfl
  have HC := Lib.hid (fun (V2 : World) (hV : Below (V.alloc (.cells #[.pointer (some ⟨rb, 0, none⟩)] 60)).heap.size (V.alloc (.cells #[.pointer (some ⟨rb, 0, none⟩)] 60)) V2) =>
    (body_ok rb B p inp fuel hwf n p.main [] (initF fuel) m0 V2 _ (.pointer none) (k3.kept (hV.mono hg1.Bs)) hwm .nil (hg1.below hV) (show (initF fuel).left < n from hn)).mono (R' := AllPost rb B p inp fuel (V.alloc (.cells #[.pointer (some ⟨rb, 0, none⟩)] 60)) (evF p.funs inp n p.main [] (initF fuel))) fun en V' h => by
      rcases (h.from_ (Evo.below hV)).inv with ⟨v, s', m', T, x, h1, rfl, h3, h4, _⟩ | ⟨ch, rfl, h2, h3, _⟩
      · exact .inl ⟨v, s', m', _, h1, rfl, h3, h4⟩
      · exact .inr ⟨ch, rfl, h3⟩)
  have hR1 : Rest rb V (V.alloc (.cells #[.pointer (some ⟨rb, 0, none⟩)] 60)) := (Rest.refl _ _).alloc _
  have hmm : ∀ k, m0.mut rb k → k = rb ∨ V.heap.size ≤ k := fun k hk => .inl (m0_mut hk)
  generalize evF p.funs inp n p.main [] (initF fuel) = o at *
  clear hg hwf hwm hn hb1 hg1 hr k1 k2 k3 k4 k5
  generalize p.main.len = ml at *
  generalize p.main.last.v = mv at *
  generalize p.main.last.n = mn at *
  go_enter_defers Try.func22, Try.ntmps22
  go_wp2_with fail
  obtain ⟨V1, hV1⟩ : ∃ V1, V.alloc (.cells #[.pointer (some ⟨rb, 0, none⟩)] 60) = V1 := ⟨_, rfl⟩
  rw [hV1] at r0 r1 r2 r3 ⊢
  have e0 : V1.drew.cell? ⟨V.heap.size, 0, none⟩ = some (.pointer (some ⟨rb, 0, none⟩)) := r0
  have e1 : V1.drew.cell? ⟨rb, 1, none⟩ = some (.slice A0 ml d0) := r1
  have e2 : V1.drew.cell? ⟨rb, 2, none⟩ = some (.bool mv) := r2
  have e3 : V1.drew.cell? ⟨rb, 3, none⟩ = some (.int .i64 mn) := r3
  have HCD := Lib.hid (HC.out V1.drew (by rw [hV1]; exact (Below.refl _ _).drew))
  refine wp_region_still_tail 6 (by kernel_rfl) (by kernel_rfl) ?_
  change wpStill _ _ V1.drew _ _ _
  simp only [List.take_succ_cons, List.take_zero, List.drop_succ_cons, List.drop_zero]
  repeat still_step
  try refine wpStill_nil ?_
  go_wp2_with fail
  refine HCD.out.mono ?_
  -- what the closure finds
  have hfind : ∀ (s' : FSt) (m' : Mem) (V2 : World), Evo rb m0 m' (V.alloc (.cells #[.pointer (some ⟨rb, 0, none⟩)] 60)) V2 → Good rb B p inp fuel s' m' V2 →
      V2.cell? ⟨V.heap.size, 0, none⟩ = some (.pointer (some ⟨rb, 0, none⟩)) ∧ (∃ f0 f1 f2 f3 x0 x1, V2.heap[rb]? = some (.cells #[f0, f1, f2, f3, x0, x1, .int .i64 0, .int .i64 0, m'.vo, .int .i64 ((fuel - s'.left : Nat) : Int)] 62 (0, 0))) ∧
      Rest rb V V2 ∧ V2.ownsRow B 3 1 m'.vo s'.out.length (s'.out.map (Value.int .i64)) ∧ m'.vo.ownBlock ≠ some rb := fun s' m' V2 hk hg' => by
    obtain ⟨f0, f1, f2, f3, Ai, ci, hr, _⟩ := hg'.run
    have hl := hg'.left
    refine ⟨at_cell0 (aV.evo hk) rfl, ⟨_, _, _, _, _, _, by rw [hr, show ((fuel - s'.left : Nat) : Int) = (fuel : Int) - s'.left by omega]⟩, hR1.evo hk hmm, hg'.out, hg'.rbo⟩
  -- how a store into the record leaves the row of ints
  have hrow : ∀ (V2 : World) (vo v : Value) (k o : Nat) (xs : List Value), V2.ownsRow B 3 1 vo k xs → vo.ownBlock ≠ some rb → (V2.setCell ⟨rb, o, none⟩ v).ownsRow B 3 1 vo k xs := fun V2 vo v k o xs h hne =>
    h.kept (row := some rb) ⟨rfl, rfl, rfl, by simp [World.setCell], fun i hi h => heap_set_ne (fun e => h (by rw [e])) _ _⟩ (.inr hne)
  have halo : ∀ (V2 : World) (o : Obj), rb < V2.heap.size → (V2.alloc o).heap[rb]? = V2.heap[rb]? := fun V2 o h => ((Below.refl V2.heap.size V2).alloc (Nat.le_refl _) o).block rb h
  intro en V2 h
  rcases h with ⟨v, s', m', g, rfl, rfl, hk, hg'⟩ | ⟨ch, rfl, hp⟩
  · obtain ⟨f1, ⟨y0, y1, y2, y3, x0, x1, f2⟩, f3, f4, f5⟩ := hfind s' m' V2 hk hg'
    have q2 : V2.cell? ⟨rb, 6, none⟩ = some (.int .i64 0) := by simp [World.cell?, f2]
    have z2 : V2.frozen? ⟨rb, 6, none⟩ = false := by simp [World.frozen?, f2]
    have HP := Lib.hid (show WholePost rb B V (endF fuel (.val v, s')) (.returned (.tuple #[])) (V2.setCell ⟨rb, 6, none⟩ (.int .i64 1)) from
      ⟨rfl, f3.set _ _, y0, y1, y2, y3, x0, x1, m'.vo, by rw [heap_set_self f2]; rfl, hrow _ _ _ _ _ _ f4 f5⟩)
    clear hfind hrow halo hk hg' f3 f4 f5
    go_wp2_with fail
    refine leaves_cons (f := 34) (args := #[.pointer (some ⟨V.heap.size, 0, none⟩)]) (by simp) (by simp [go_sem]) ?_
    refine (whole1_idle _ rb (.nilIface) _ f1 q2 z2).mono ?_
    rintro e u' w'' ⟨rfl, rfl, rfl⟩
    simp [Leaves, settle, results, Try.results22, go_sem]
    exact HP.out
  · cases hp with
    | @raised v s' m' _ g _ hk hg' hv hkey hth =>
      obtain ⟨older, rfl, hold⟩ := hth
      obtain ⟨key, hkey⟩ := hkey
      obtain ⟨T, y, rfl⟩ := hv.shape
      obtain ⟨f1, ⟨y0, y1, y2, y3, x0, x1, f2⟩, f3, f4, f5⟩ := hfind s' m' V2 hk hg'
      have q2 : V2.cell? ⟨rb, 6, none⟩ = some (.int .i64 0) := by simp [World.cell?, f2]
      have z2 : V2.frozen? ⟨rb, 6, none⟩ = false := by simp [World.frozen?, f2]
      have q3 : V2.cell? ⟨rb, 7, none⟩ = some (.int .i64 0) := by simp [World.cell?, f2]
      have z3 : V2.frozen? ⟨rb, 7, none⟩ = false := by simp [World.frozen?, f2]
      have hv4 : RepV rb m' ((V2.setCell ⟨rb, 6, none⟩ (.int .i64 4)).alloc (.cells #[.iface T y] 80)) v (.iface T y) := (hv.evo (Evo.setCell V2 6 _ (.inl rfl))).evo (Evo.alloc _ _ _ _)
      have hK := (key_any hv4).mono (R' := fun e w' => e = .returned (.int .i64 key) ∧ (V2.setCell ⟨rb, 6, none⟩ (.int .i64 4)).alloc (.cells #[.iface T y] 80) = w') (by
        rintro e w' (⟨n, hn, rfl, rfl⟩ | ⟨hn, rfl, rfl⟩)
        · rw [hkey] at hn; cases hn; exact ⟨rfl, rfl⟩
        · rw [hkey] at hn; cases hn)
      have hrb2 : rb < V2.heap.size := (Array.getElem?_eq_some_iff.1 f2).1
      have hs1 : ((V2.setCell ⟨rb, 6, none⟩ (.int .i64 4)).alloc (.cells #[.iface T y] 80)).heap[rb]? = some (.cells #[y0, y1, y2, y3, x0, x1, .int .i64 4, .int .i64 0, m'.vo, .int .i64 ((fuel - s'.left : Nat) : Int)] 62 (0, 0)) := by
        rw [halo _ _ (by simpa [World.setCell] using hrb2), heap_set_self f2]; rfl
      have ho1 := (hrow _ _ (.int .i64 4) _ 6 _ f4 f5).alloc (.cells #[.iface T y] 80)
      have hr1 := (f3.set 6 (.int .i64 4)).alloc (.cells #[.iface T y] 80)
      refine leaves_cons (f := 34) (args := #[.pointer (some ⟨V.heap.size, 0, none⟩)]) (by simp) (by simp [go_sem]) ?_
      refine (whole1_raised _ rb key T y older _ f1 q2 z2 q3 z3 (by omega) hK).mono ?_
      rintro e u' w'' ⟨rfl, rfl, rfl⟩
      show Leaves _ _ _ _ [] (settle _) _
      rw [settle_thrown hold]
      by_cases hk0 : 0 ≤ key
      · have he : endF fuel (.raised v, s') = ⟨2, key, s'.out, fuel - s'.left⟩ := by simp [endF, hkey, hk0]
        rw [if_pos hk0, he]
        simp only [Leaves, results, Try.results22]
        refine ⟨.tuple #[], by simp, rfl, (hr1.set _ _).set _ _, y0, y1, y2, y3, x0, x1, m'.vo, ?_, hrow _ _ _ _ _ _ (hrow _ _ _ _ _ _ ho1 f5) f5⟩
        have h2 := heap_set_self hs1 6 (.int .i64 2)
        rw [heap_set_self h2]
        rfl
      · have he : endF fuel (.raised v, s') = ⟨4, 0, s'.out, fuel - s'.left⟩ := by simp [endF, hkey, hk0]
        rw [if_neg hk0, he]
        simp only [Leaves, results, Try.results22]
        exact ⟨.tuple #[], by simp, rfl, hr1, y0, y1, y2, y3, x0, x1, m'.vo, hs1, ho1⟩
    | @stuck s' m' _ _ hk hg' hth =>
      obtain ⟨older, rfl, hold⟩ := hth
      obtain ⟨f1, ⟨y0, y1, y2, y3, x0, x1, f2⟩, f3, f4, f5⟩ := hfind s' m' V2 hk hg'
      have q2 : V2.cell? ⟨rb, 6, none⟩ = some (.int .i64 0) := by simp [World.cell?, f2]
      have z2 : V2.frozen? ⟨rb, 6, none⟩ = false := by simp [World.frozen?, f2]
      refine leaves_cons (f := 34) (args := #[.pointer (some ⟨V.heap.size, 0, none⟩)]) (by simp) (by simp [go_sem]) ?_
      refine (whole1_stop _ rb 4 older _ f1 q2 z2).mono ?_
      rintro e u' w'' ⟨rfl, rfl, rfl⟩
      show Leaves _ _ _ _ [] (settle _) _
      rw [settle_thrown hold]
      simp only [Leaves, results, Try.results22]
      refine ⟨.tuple #[], by simp, rfl, (f3.alloc _).set _ _, y0, y1, y2, y3, x0, x1, m'.vo, ?_, hrow _ _ _ _ _ _ (f4.alloc _) f5⟩
      rw [heap_set_self ((halo V2 _ (Array.getElem?_eq_some_iff.1 f2).1).trans f2)]; rfl
    | @cut s' m' _ _ hk hg' hth =>
      obtain ⟨older, rfl, hold⟩ := hth
      obtain ⟨f1, ⟨y0, y1, y2, y3, x0, x1, f2⟩, f3, f4, f5⟩ := hfind s' m' V2 hk hg'
      have q2 : V2.cell? ⟨rb, 6, none⟩ = some (.int .i64 0) := by simp [World.cell?, f2]
      have z2 : V2.frozen? ⟨rb, 6, none⟩ = false := by simp [World.frozen?, f2]
      refine leaves_cons (f := 34) (args := #[.pointer (some ⟨V.heap.size, 0, none⟩)]) (by simp) (by simp [go_sem]) ?_
      refine (whole1_stop _ rb 3 older _ f1 q2 z2).mono ?_
      rintro e u' w'' ⟨rfl, rfl, rfl⟩
      show Leaves _ _ _ _ [] (settle _) _
      rw [settle_thrown hold]
      simp only [Leaves, results, Try.results22]
      refine ⟨.tuple #[], by simp, rfl, (f3.alloc _).set _ _, y0, y1, y2, y3, x0, x1, m'.vo, ?_, hrow _ _ _ _ _ _ (f4.alloc _) f5⟩
      rw [heap_set_self ((halo V2 _ (Array.getElem?_eq_some_iff.1 f2).1).trans f2)]; rfl

end Go.Proofs.Ytnobggabjpcbfaa

/-
  The flat evaluator: feval.Run, clos.Right being known.
-/
set_option linter.unusedVariables false
set_option linter.unusedSimpArgs false
namespace Go.Proofs.Ytnobggabjpcbfaa
open Go.RowKit

/-- what a run's end is -/
def runE (p : FlatP) (inp : List Int) (f : Int) : PEnd := if rightC p = 0 then endF (fuelOf f) (runF p inp f) else ⟨4, 0, [], 0⟩
/-- a run's end in memory -/
def EndIn (B : Nat) (w : World) (pe : PEnd) (e : Ending) (w' : World) : Prop :=
  ∃ A c, e = .returned (.agg #[.int .i64 pe.kind, .int .i64 pe.n, .slice A pe.out.length c, .int .i64 pe.steps]) ∧ IntsIn w'.heap.size w' A pe.out ∧ pe.out.length ≤ c ∧ (∀ a, A = some a → B ≤ a.block) ∧ Below w.heap.size w w'
/-- the contract of clos.Right at a program -/
def RightSays (p : FlatP) : Prop := ∀ (W : World) (v : Array Value), FlatIn W.heap.size W p v → Calls Try.prog 21 #[.agg v] W fun e w' => e = .returned (.int .i64 (rightC p)) ∧ Below W.heap.size W w'
theorem FlatIn.shape {B : Nat} {w : World} {p : FlatP} {v : Array Value} (h : FlatIn B w p v) : ∃ A0 n0 d0 A1 n1 d1 b1 k1, v = #[.slice A0 n0 d0, .slice A1 n1 d1, .bool b1, .int .i64 k1] := by
  obtain ⟨Af, cf, b, o, m0, m1, m2, h1, h2, h3, h4, h5, h6⟩ := h
  obtain ⟨A1, c1, b1, o1, hv, -⟩ := h4.at_
  simp only [Array.mk.injEq, List.cons.injEq, and_true] at hv
  obtain ⟨rfl, rfl, rfl⟩ := hv
  exact ⟨_, _, _, _, _, _, _, _, h1⟩

set_option maxRecDepth 100000 in
set_option maxHeartbeats 2000000 in
theorem run_wrong {B : Nat} {W : World} {p : FlatP} {v : Array Value} (hin : FlatIn B W p v) (hB : B ≤ W.heap.size) (hrs : RightSays p) (inp f : Value) (hr : rightC p ≠ 0) :
    Calls Try.prog 9 #[.agg v, inp, f] W (EndIn B W ⟨4, 0, [], 0⟩) := by
  obtain ⟨A0, n0, d0, A1, n1, d1, b1, k1, rfl⟩ := hin.shape
  have hb1 : Below W.heap.size W ((W.alloc (.cells #[.slice A0 n0 d0, .slice A1 n1 d1, .bool b1, .int .i64 k1] 29)).alloc (.cells #[.int .i64 0, .int .i64 0, .slice none 0 0, .int .i64 0] 35)) := ((Below.refl _ _).alloc (Nat.le_refl _) _).alloc (by rw [World.size_alloc]; exact Nat.le_succ _) _
  have HR := Lib.hid (hrs _ _ ((hin.kept (hb1.mono hB)).mono (Nat.le_trans hB hb1.size)))
  have hrr : (rightC p == 0) = false := by simpa using hr
  have HB := Lib.hid hb1
  generalize rightC p = r at *
  clear hin hb1 hrs
  go_enter Try.func9, Try.ntmps9
  go_wp2_with fail
  refine HR.out.mono ?_
  rintro e w' ⟨rfl, hb2⟩
  have h31 : w'.heap[W.heap.size + 1]? = some (.cells #[.int .i64 0, .int .i64 0, .slice none 0 0, .int .i64 0] 35 (0, 0)) := (hb2.block (W.heap.size + 1) (by simp)).trans (two_new2 W _ _)
  have c0 : w'.cell? ⟨W.heap.size + 1, 0, none⟩ = some (.int .i64 0) := by simp [World.cell?, h31]
  have c1 : w'.cell? ⟨W.heap.size + 1, 1, none⟩ = some (.int .i64 0) := by simp [World.cell?, h31]
  have c2 : w'.cell? ⟨W.heap.size + 1, 2, none⟩ = some (.slice none 0 0) := by simp [World.cell?, h31]
  have c3 : w'.cell? ⟨W.heap.size + 1, 3, none⟩ = some (.int .i64 0) := by simp [World.cell?, h31]
  have fz : ∀ i, w'.frozen? ⟨W.heap.size + 1, i, none⟩ = false := fun i => by simp [World.frozen?, h31]
  have hb3 : Below W.heap.size W w' := HB.out.trans (hb2.mono HB.out.size)
  have HB3 := Lib.hid hb3
  clear hb2 hb3 h31
  go_wp2_with fail
  refine bodyPost_ret (v := .agg #[.int .i64 4, .int .i64 0, .slice none 0 0, .int .i64 0]) (by simp [results, Try.results9, go_sem, c0, c1, c2, c3]) rfl ?_
  refine ⟨none, 0, rfl, ⟨by simp, .inl rfl⟩, by simp, (by intro a h; cases h), ?_⟩
  exact (((HB3.out.setCell (p := ⟨_, _, none⟩) (Nat.le_succ _) _).setCell (p := ⟨_, _, none⟩) (Nat.le_succ _) _).setCell (p := ⟨_, _, none⟩) (Nat.le_succ _) _).setCell (p := ⟨_, _, none⟩) (Nat.le_succ _) _

theorem fuelOf_int (f : Int) : ((fuelOf f : Nat) : Int) = min (max f 0) 1000000 := by unfold fuelOf; omega
theorem fuelOf_le (f : Int) : fuelOf f ≤ 1000000 := by unfold fuelOf; omega
theorem own_ints {w : World} {base n : Nat} {e : TypeId} {v : Value} {xs : List Int} (h : w.ownsRow base e 1 v n (xs.map (Value.int .i64))) (hb : xs.length * 8 ≤ 140737488351232) :
    ∃ A c, v = .slice A xs.length c ∧ IntsIn w.heap.size w A xs ∧ xs.length ≤ c := by
  have hl : xs.length = n := by have := h.1; simpa using this
  rcases h.2 with ⟨rfl, h0⟩ | ⟨g, cap, cur, rfl, _, hg, hn, _⟩
  · refine ⟨none, 0, by rw [hl, h0], ⟨hb, .inl (List.length_eq_zero_iff.1 (by omega))⟩, by omega⟩
  · refine ⟨some ⟨g, 0, none⟩, cap, by rw [hl], ⟨hb, .inr ⟨g, 0, rfl, (h.lt g rfl).2, fun j hj => ?_⟩⟩, by omega⟩
    have := World.ownsRow.cells h (g := g) rfl j (.int .i64 (nth xs j)) (by simp [nth_eq _ hj, hj])
    have ha : (⟨g, 0, none⟩ : Addr).add j = ⟨g, 0 + j, none⟩ := by unfold Addr.add; split <;> simp_all
    rw [ha] at this
    exact this
theorem ownsRow_same {w w' : World} {base : Nat} {e : TypeId} {size : Nat} {v : Value} {n : Nat} {xs : List Value} (h : w.ownsRow base e size v n xs) (hk : ∀ k, v.ownBlock = some k → w'.heap[k]? = w.heap[k]?) : w'.ownsRow base e size v n xs := by
  refine ⟨h.1, ?_⟩
  rcases h.2 with h0 | ⟨g, cap, cur, rfl, h1, h2, h3⟩
  · exact .inl h0
  · exact .inr ⟨g, cap, cur, rfl, h1, (hk g rfl).trans h2, h3⟩

/-- a run's record as it is made -/
theorem good_start {B : Nat} {w V : World} {p : FlatP} {inp : List Int} {F : Nat} (hF : F ≤ 1000000) {v0 v1 v2 v3 : Value} (hfl : FlatIn B w p #[v0, v1, v2, v3]) {Ai : Option Addr} {ci : Nat} (hi : IntsIn B w Ai inp) (hci : inp.length ≤ ci) (hB : B ≤ w.heap.size)
    (hV : Below w.heap.size w V) (hr : V.heap[w.heap.size]? = some (.cells #[v0, v1, v2, v3, .slice Ai inp.length ci, .int .i64 F, .int .i64 0, .int .i64 0, .slice none 0 0, .int .i64 0] 62 (0, 0))) :
    Good w.heap.size B p inp F (initF F) m0 V :=
  ⟨Nat.le_trans hB hV.size, hB, Nat.le_refl _, hF, by simp [initF], ⟨v0, v1, v2, v3, Ai, ci, by simpa [initF, m0] using hr, hfl.kept (hV.mono hB), by simpa [initF] using hi.below (hV.mono hB), by simpa [initF] using hci⟩,
    ⟨by simp [initF], .inl ⟨rfl, rfl⟩⟩, rfl, by intro i h; simp [initF] at h, rfl, by intro i h; simp [initF] at h, by simp [m0], by simp [m0], by simp [m0, Value.ownBlock], by intro b h; simp [m0] at h, by intro b h; simp [m0] at h⟩

set_option maxRecDepth 100000 in
set_option maxHeartbeats 4000000 in
theorem run_right {B : Nat} {W : World} {p : FlatP} {v : Array Value} (hin : FlatIn B W p v) (hB : B ≤ W.heap.size) (hrs : RightSays p) {inp : List Int} {Ai : Option Addr} {ci : Nat} (hi : IntsIn B W Ai inp) (hci : inp.length ≤ ci) (f : Int) (hr : rightC p = 0) :
    Calls Try.prog 9 #[.agg v, .slice Ai inp.length ci, .int .i64 f] W (EndIn B W (endF (fuelOf f) (runF p inp f))) := by
  obtain ⟨A0, n0, d0, A1, n1, d1, b1, k1, rfl⟩ := hin.shape
  have hb1 : Below W.heap.size W ((W.alloc (.cells #[.slice A0 n0 d0, .slice A1 n1 d1, .bool b1, .int .i64 k1] 29)).alloc (.cells #[.int .i64 0, .int .i64 0, .slice none 0 0, .int .i64 0] 35)) := ((Below.refl _ _).alloc (Nat.le_refl _) _).alloc (by rw [World.size_alloc]; exact Nat.le_succ _) _
  have HR := Lib.hid (hrs _ _ ((hin.kept (hb1.mono hB)).mono (Nat.le_trans hB hb1.size)))
  have HWF := Lib.hid (wf_of_rightC hr)
  have HB := Lib.hid hb1
  have HI := Lib.hid hi
  have HIN := Lib.hid hin
  have hlen64 := hi.1
  obtain ⟨L, hL⟩ : ∃ L, inp.length = L := ⟨_, rfl⟩
  have HLL := Lib.hid hL
  rw [hL] at hci hlen64 ⊢
  rw [hr] at HR
  clear hin hb1 hi hL hrs
  go_enter Try.func9, Try.ntmps9
  go_wp2_with fail
  refine HR.out.mono ?_
  rintro e w' ⟨rfl, hb2⟩
  have h30 : w'.heap[W.heap.size]? = some (.cells #[.slice A0 n0 d0, .slice A1 n1 d1, .bool b1, .int .i64 k1] 29 (0, 0)) := (hb2.block W.heap.size (by simp; omega)).trans (two_new1 W _ _)
  have h31 : w'.heap[W.heap.size + 1]? = some (.cells #[.int .i64 0, .int .i64 0, .slice none 0 0, .int .i64 0] 35 (0, 0)) := (hb2.block (W.heap.size + 1) (by simp)).trans (two_new2 W _ _)
  have q0 : w'.cell? ⟨W.heap.size, 0, none⟩ = some (.slice A0 n0 d0) := by simp [World.cell?, h30]
  have q1 : w'.cell? ⟨W.heap.size, 1, none⟩ = some (.slice A1 n1 d1) := by simp [World.cell?, h30]
  have q2 : w'.cell? ⟨W.heap.size, 2, none⟩ = some (.bool b1) := by simp [World.cell?, h30]
  have q3 : w'.cell? ⟨W.heap.size, 3, none⟩ = some (.int .i64 k1) := by simp [World.cell?, h30]
  have hb3 : Below W.heap.size W w' := HB.out.trans (hb2.mono HB.out.size)
  have hsz : W.heap.size + 2 ≤ w'.heap.size := by have := hb2.size; simp at this; omega
  have HB3 := Lib.hid hb3
  have HC := Lib.hid (fun (X : Nat) (FI : Int) (V : World) (hX : X = (inp.take 4096).length) (hFI : FI = ((fuelOf f : Nat) : Int)) (hV : Below w'.heap.size w' V) (hrec : V.heap[w'.heap.size]? = some (.cells #[.slice A0 n0 d0, .slice A1 n1 d1, .bool b1, .int .i64 k1, .slice Ai X ci, .int .i64 FI, .int .i64 0, .int .i64 0, .slice none 0 0, .int .i64 0] 62 (0, 0))) =>
    (show Calls Try.prog 22 #[.pointer (some ⟨w'.heap.size, 0, none⟩)] V (WholePost w'.heap.size B V (endF (fuelOf f) (runF p inp f))) from by
      subst hX hFI
      have hbB := hb3.mono hB
      have hgood := good_start (fuelOf_le f) (HIN.out.kept hbB) ((HI.out.take 4096).below hbB) (by have := HLL.out; simp; omega) (Nat.le_trans hB hb3.size) hV hrec
      exact whole_any hgood HWF.out.1 HWF.out.2 (Nat.lt_succ_self _)))
  have HE := Lib.hid (fun (V V' : World) (hV : Below w'.heap.size w' V) (hVs : w'.heap.size + 1 ≤ V.heap.size) (hP : WholePost w'.heap.size B V (endF (fuelOf f) (runF p inp f)) (.returned (.tuple #[])) V') =>
    (show ∃ A k c, (V'.cell? ⟨w'.heap.size, 6, none⟩ = some (.int .i64 (endF (fuelOf f) (runF p inp f)).kind) ∧ V'.cell? ⟨w'.heap.size, 7, none⟩ = some (.int .i64 (endF (fuelOf f) (runF p inp f)).n) ∧
        V'.cell? ⟨w'.heap.size, 8, none⟩ = some (.slice A k c) ∧ V'.cell? ⟨w'.heap.size, 9, none⟩ = some (.int .i64 (endF (fuelOf f) (runF p inp f)).steps) ∧
        V'.cell? ⟨W.heap.size + 1, 0, none⟩ = some (.int .i64 0) ∧ V'.cell? ⟨W.heap.size + 1, 1, none⟩ = some (.int .i64 0) ∧ V'.cell? ⟨W.heap.size + 1, 2, none⟩ = some (.slice none 0 0) ∧ V'.cell? ⟨W.heap.size + 1, 3, none⟩ = some (.int .i64 0)) ∧
        (∀ i, V'.frozen? ⟨W.heap.size + 1, i, none⟩ = false) ∧
        ∀ V2, V'.heap.size ≤ V2.heap.size → V2.os = V'.os → V2.tape = V'.tape → V2.output = V'.output → (∀ k, k ≠ W.heap.size + 1 → V2.heap[k]? = V'.heap[k]?) →
          EndIn B W (endF (fuelOf f) (runF p inp f)) (.returned (.agg #[.int .i64 (endF (fuelOf f) (runF p inp f)).kind, .int .i64 (endF (fuelOf f) (runF p inp f)).n, .slice A k c, .int .i64 (endF (fuelOf f) (runF p inp f)).steps])) V2 from by
      obtain ⟨_, hrest, y0, y1, y2, y3, x0, x1, vo, hrec, hout⟩ := hP
      have h6 : V'.heap[W.heap.size + 1]? = some (.cells #[.int .i64 0, .int .i64 0, .slice none 0 0, .int .i64 0] 35 (0, 0)) := (hrest.same _ (by omega) (by omega)).trans ((hV.block _ (by omega)).trans h31)
      have hoL : (endF (fuelOf f) (runF p inp f)).out.length ≤ 1000000 := by
        rw [endF_out]
        have h1 := (evF_le p.funs (inp.take 4096) (fuelOf f + 1) p.main [] (initF (fuelOf f))).out
        have h2 := fuelOf_le f
        unfold runF
        simp [initF] at h1 ⊢
        omega
      have hvo : ∃ A k c, vo = .slice A k c := ownsRow_shape hout
      obtain ⟨A, k, c, rfl⟩ := hvo
      refine ⟨A, k, c, ⟨by simp [World.cell?, hrec], by simp [World.cell?, hrec], by simp [World.cell?, hrec], by simp [World.cell?, hrec], by simp [World.cell?, h6], by simp [World.cell?, h6], by simp [World.cell?, h6], by simp [World.cell?, h6]⟩, fun i => by simp [World.frozen?, h6], fun V2 e1 e2 e3 e4 e5 => ?_⟩
      have hout2 := ownsRow_same hout (w' := V2) (fun q hq => e5 q (by
        rintro rfl
        rcases hout.2 with ⟨h0, _⟩ | ⟨g, cap, cur, h0, _, hgg, _⟩
        · rw [h0] at hq; simp [Value.ownBlock] at hq
        · rw [h0] at hq; simp [Value.ownBlock] at hq
          subst hq
          have := hgg.symm.trans h6
          simp only [Option.some.injEq, Obj.cells.injEq] at this
          exact absurd this.2.1 (by decide)))
      obtain ⟨A', c', hA, hints, hc⟩ := own_ints hout2 (by omega)
      cases hA
      have hlo : ∀ a, A = some a → B ≤ a.block := fun a ha => by
        subst ha
        exact (hout2.lt a.block rfl).1
      refine ⟨A, c, rfl, hints, hc, hlo, ?_⟩
      have hbV : Below W.heap.size W V' := hb3.trans ⟨(hrest.os.trans hV.os), (hrest.tape.trans hV.tape), (hrest.output.trans hV.output), Nat.le_trans (Nat.le_trans (by omega) hV.size) hrest.size, fun q hq => (hrest.same q (by omega) (by omega)).trans (hV.block q (by omega))⟩
      exact ⟨e2.trans hbV.os, e3.trans hbV.tape, e4.trans hbV.output, Nat.le_trans hbV.size e1, fun q hq => (e5 q (by omega)).trans (hbV.block q hq)⟩))
  have hfi := fuelOf_int f
  have HFI := Lib.hid hfi
  have hls : W.heap.size < w'.heap.size := by omega
  clear hb2 hb3 h30 h31 hfi
  generalize endF (fuelOf f) (runF p inp f) = pe at *
  have hL0 : (0 : Int) ≤ min (L : Int) 4096 := by omega
  have hL1 : min (L : Int) 4096 ≤ (ci : Int) := by omega
  go_wp2_with fail
  go_region
  all_goals
    obtain ⟨FI, hFI⟩ : ∃ FI : Int, (if 1000000 < (if f < 0 then 0 else f) then 1000000 else (if f < 0 then 0 else f)) = FI := ⟨_, rfl⟩
    have HF2 := Lib.hid (show FI = ((fuelOf f : Nat) : Int) from by have := HFI.out; rw [← hFI]; split <;> split at * <;> omega)
    obtain ⟨X, hX⟩ : ∃ X : Nat, (if 4096 < (L : Int) then 4096 else (L : Int)).toNat = X := ⟨_, rfl⟩
    have HX2 := Lib.hid (show X = (inp.take 4096).length from by have := HLL.out; rw [← hX]; simp; split <;> omega)
    rw [hFI, hX]
    clear hFI hX
    obtain ⟨V, hV⟩ : ∃ V, (w'.alloc (.cells #[.slice A0 n0 d0, .slice A1 n1 d1, .bool b1, .int .i64 k1, .slice Ai X ci, .int .i64 FI, .int .i64 0, .int .i64 0, .slice none 0 0, .int .i64 0] 62)).drew = V := ⟨_, rfl⟩
    have hbV : Below w'.heap.size w' V := by rw [← hV]; exact ((Below.refl _ _).alloc (Nat.le_refl _) _).drew
    have hVr : V.heap[w'.heap.size]? = some (.cells #[.slice A0 n0 d0, .slice A1 n1 d1, .bool b1, .int .i64 k1, .slice Ai X ci, .int .i64 FI, .int .i64 0, .int .i64 0, .slice none 0 0, .int .i64 0] 62 (0, 0)) := by rw [← hV]; exact World.alloc_heap_new w' _
    have HCC := Lib.hid (HC.out X FI V HX2.out HF2.out hbV hVr)
    have HEE := Lib.hid (fun V' => HE.out V V' hbV ((Array.getElem?_eq_some_iff.1 hVr).1))
    rw [hV]
    clear hV hbV hVr HC HE q0 q1 q2 q3
    go_wp2_with fail
    all_goals
      refine HCC.out.mono ?_
      intro e V' hP
      obtain ⟨rfl, _⟩ := id hP
      obtain ⟨A, k, c, ⟨r2, r3, r4, r5, r60, r61, r62, r63⟩, rfz, hfin⟩ := HEE.out _ hP
      have HFIN := Lib.hid hfin
      clear hP hfin
      go_wp2_with fail
      refine bodyPost_ret (v := .agg #[.int .i64 pe.kind, .int .i64 pe.n, .slice A k c, .int .i64 pe.steps]) (by simp [results, Try.results9, go_sem, r60, r61, r62, r63]) rfl ?_
      refine HFIN.out _ (by simp [World.setCell]) rfl rfl rfl (fun q hq => ?_)
      rw [heap_set_ne hq, heap_set_ne hq, heap_set_ne hq, heap_set_ne hq]

theorem frun_any {B : Nat} {W : World} {p : FlatP} {v : Array Value} (hin : FlatIn B W p v) (hB : B ≤ W.heap.size) (hrs : RightSays p) {inp : List Int} {Ai : Option Addr} {ci : Nat} (hi : IntsIn B W Ai inp) (hci : inp.length ≤ ci) (f : Int) :
    Calls Try.prog 9 #[.agg v, .slice Ai inp.length ci, .int .i64 f] W (EndIn B W (runE p inp f)) := by
  unfold runE
  split
  · exact run_right hin hB hrs hi hci f (by assumption)
  · exact run_wrong hin hB hrs _ _ (by assumption)
end Go.Proofs.Ytnobggabjpcbfaa
