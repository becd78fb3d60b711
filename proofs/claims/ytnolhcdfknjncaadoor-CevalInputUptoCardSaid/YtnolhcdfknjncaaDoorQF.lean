/-
  11 texts of this seat in one: F1 F2 T1 T2 T3 T4 T5 T6 T7 T8 T9.
-/
import Derived.Test.YtnolhcdfknjncaaDoorQE
/-
  The program's evaluator: functions that know one another: what lies in memory while they are made.
-/
set_option linter.unusedVariables false
set_option linter.unusedSimpArgs false
namespace Go.Proofs.YtnolhcdfknjncaaDoor
open Go.RowKit

theorem fixEnv_snoc : ∀ (k : Nat) (l : List Int) (x y : Int) (i : Nat) (e : PEnv), l.length = 2 * k → fixEnv (l ++ [x, y]) i e = (x, .fn (i + k)) :: fixEnv l i e
  | 0, [], x, y, i, e, _ => by simp [fixEnv]
  | k + 1, a :: b :: l, x, y, i, e, h => by
    have := fixEnv_snoc k l x y (i + 1) ((a, .fn i) :: e) (by simp at h; omega)
    simp only [List.cons_append, fixEnv]
    rw [this, show i + 1 + k = i + (k + 1) by omega]
  | k + 1, [a], x, y, i, e, h => by simp at h; omega
  | 0, _ :: _, x, y, i, e, h => by simp at h
  | k + 1, [], x, y, i, e, h => by simp at h
theorem fixEnv_take (ks : List Int) (i : Nat) (e : PEnv) {k : Nat} (h : 2 * k + 1 < ks.length) : fixEnv (ks.take (2 * (k + 1))) i e = (nth ks (2 * k), .fn (i + k)) :: fixEnv (ks.take (2 * k)) i e := by
  have h1 : ks.take (2 * (k + 1)) = ks.take (2 * k) ++ [nth ks (2 * k), nth ks (2 * k + 1)] := by
    rw [show 2 * (k + 1) = 2 * k + 1 + 1 by omega, take_snoc ks (by omega), take_snoc ks (by omega)]
    simp
  rw [h1, fixEnv_snoc k _ _ _ _ _ (by simp; omega)]
theorem fixFns_length (env : PEnv) : ∀ (q : Nat) (ks : List Int) (cs : List Core), ks.length = 2 * q → q ≤ cs.length → (fixFns env ks cs).length = q
  | 0, [], cs, _, _ => by cases cs <;> simp [fixFns]
  | q + 1, a :: b :: ks, c :: cs, h, h' => by simp [fixFns, fixFns_length env q ks cs (by simp at h; omega) (by simp at h'; omega)]
  | 0, _ :: _, cs, h, _ => by simp at h
  | q + 1, [], cs, h, _ => by simp at h
  | q + 1, [a], cs, h, _ => by simp at h; omega
  | q + 1, a :: b :: ks, [], h, h' => by simp at h'
theorem fixFns_get (env : PEnv) : ∀ (q : Nat) (ks : List Int) (cs : List Core), ks.length = 2 * q → (h' : q ≤ cs.length) → ∀ j (hj : j < q), (fixFns env ks cs)[j]? = some ⟨nth ks (2 * j + 1), cs[j], env⟩
  | q + 1, a :: b :: ks, c :: cs, h, h', 0, hj => by simp [fixFns, nth]
  | q + 1, a :: b :: ks, c :: cs, h, h', j + 1, hj => by
    have := fixFns_get env q ks cs (by simp at h; omega) (by simp at h'; omega) j (by omega)
    simp only [fixFns, List.getElem?_cons_succ, List.getElem_cons_succ]
    rw [this]
    simp [nth, show 2 * (j + 1) + 1 = 2 * j + 1 + 1 + 1 by omega]
  | 0, _, cs, h, _, j, hj => by omega
  | q + 1, [], cs, h, _, j, hj => by simp at h
  | q + 1, [a], cs, h, _, j, hj => by simp at h; omega
  | q + 1, a :: b :: ks, [], h, h', j, hj => by simp at h'

def Persist (w w' : World) : Prop := ∀ (b : Nat) (cs : Array Value) (T : TypeId) (fr : Nat × Nat), T = 90 ∨ T = 93 → w.heap[b]? = some (.cells cs T fr) → w'.heap[b]? = some (.cells cs T fr)
theorem Persist.trans {a b c : World} (h : Persist a b) (k : Persist b c) : Persist a c := fun i cs T fr hT hh => k i cs T fr hT (h i cs T fr hT hh)
theorem Persist.alloc (w : World) (o : Obj) : Persist w (w.alloc o) := fun b cs T fr _ hh =>
  (((Below.refl w.heap.size w).alloc (Nat.le_refl _) o).block b (Array.getElem?_eq_some_iff.1 hh).1).trans hh
theorem Persist.grown {w w' : World} {base : Nat} {v : Value} {n : Nat} {xs : List Value} (ho : w.ownsRow base 88 1 v n xs) (hg : w.grownBy w' v.ownBlock) : Persist w w' := fun b cs T fr hT hh => by
  refine (hg.block b (Array.getElem?_eq_some_iff.1 hh).1 ?_).trans hh
  rcases ho.2 with ⟨rfl, _⟩ | ⟨g, cap, cur, rfl, _, hgg, _⟩
  · simp [Value.ownBlock]
  · simp only [Value.ownBlock, ne_eq, Option.some.injEq]
    rintro rfl
    have := hh.symm.trans hgg
    simp only [Option.some.injEq, Obj.cells.injEq] at this
    rcases hT with rfl | rfl
    · exact absurd this.2.1 (by decide)
    · exact absurd this.2.1 (by decide)

/-- the links that were made -/
inductive LinkIn (n0 : Nat) (w : World) (ks : List Int) (bs : List Nat) (ge : Value) : Nat → Value → Prop
  | zero : LinkIn n0 w ks bs ge 0 ge
  | succ {k : Nat} {gp : Value} {b f : Nat} (h : LinkIn n0 w ks bs ge k gp) (hlo : n0 ≤ b) (hf : bs[k]? = some f)
      (hb : w.heap[b]? = some (.cells #[.int .i64 (nth ks (2 * k)), .iface 88 (.pointer (some ⟨f, 0, none⟩)), gp] 93 (0, 0))) : LinkIn n0 w ks bs ge (k + 1) (.pointer (some ⟨b, 0, none⟩))
theorem LinkIn.persist {n0 : Nat} {w w' : World} {ks : List Int} {bs bs' : List Nat} {ge : Value} (hp : ∀ (b : Nat) (cs : Array Value) (fr : Nat × Nat), w.heap[b]? = some (.cells cs 93 fr) → w'.heap[b]? = some (.cells cs 93 fr)) (hbs : bs <+: bs') {k : Nat} {gp : Value} (h : LinkIn n0 w ks bs ge k gp) : LinkIn n0 w' ks bs' ge k gp := by
  induction h with
  | zero => exact .zero
  | succ _ hlo hf hb ih => exact .succ ih hlo (prefix_get hbs hf) (hp _ _ _ hb)
theorem LinkIn.shape {n0 : Nat} {w : World} {ks : List Int} {bs : List Nat} {ge : Value} (hge : ∃ p, ge = .pointer p) {k : Nat} {gp : Value} (h : LinkIn n0 w ks bs ge k gp) : ∃ p, gp = .pointer p := by
  cases h with
  | zero => exact hge
  | succ => exact ⟨_, rfl⟩

/-- functions that were made so far -/
structure FixIn (W0 wr : World) (ks : List Int) (G0 G1 G2 G3 : Nat → Value) (ge : Value) (k : Nat) (kn : Nat → Value) (bs : List Nat) (v gp : Value) : Prop where
  below : Below W0.heap.size W0 wr
  len : bs.length = k
  lo : ∀ b ∈ bs, W0.heap.size ≤ b
  nodup : bs.Nodup
  fnb : ∀ j (h : j < bs.length), wr.heap[bs[j]]? = some (.cells #[.int .i64 (nth ks (2 * j + 1)), G0 j, G1 j, G2 j, G3 j, kn j] 90 (0, 0))
  row : wr.ownsRow W0.heap.size 88 1 v k (bs.map fun b => .pointer (some ⟨b, 0, none⟩))
  lk : LinkIn W0.heap.size wr ks bs ge k gp
section
variable {W0 wr : World} {ks : List Int} {G0 G1 G2 G3 : Nat → Value} {ge : Value} {k : Nat} {kn : Nat → Value} {bs : List Nat} {v gp : Value}
theorem FixIn.start (W0 : World) (ks : List Int) (G0 G1 G2 G3 : Nat → Value) (ge : Value) (kn : Nat → Value) : FixIn W0 W0 ks G0 G1 G2 G3 ge 0 kn [] (.slice none 0 0) ge :=
  ⟨Below.refl _ _, rfl, by simp, by simp, by simp, ⟨by simp, .inl ⟨rfl, rfl⟩⟩, .zero⟩
/-- one more: its block, the literal of 'append', the longer slice, the link -/
theorem FixIn.more (h : FixIn W0 wr ks G0 G1 G2 G3 ge k kn bs v gp) (hkn : kn k = .pointer none) {o : Obj} {w1 : World} {v' : Value}
    (hown : w1.ownsRow W0.heap.size 88 1 v' (k + 1) ((bs.map fun b => Value.pointer (some ⟨b, 0, none⟩)) ++ [.pointer (some ⟨wr.heap.size, 0, none⟩)]))
    (hgrow : ((wr.drew.alloc (.cells #[.int .i64 (nth ks (2 * k + 1)), G0 k, G1 k, G2 k, G3 k, .pointer none] 90)).alloc o).grownBy w1 v.ownBlock) :
    FixIn W0 (w1.alloc (.cells #[.int .i64 (nth ks (2 * k)), .iface 88 (.pointer (some ⟨wr.heap.size, 0, none⟩)), gp] 93)) ks G0 G1 G2 G3 ge (k + 1) kn (bs ++ [wr.heap.size]) v' (.pointer (some ⟨w1.heap.size, 0, none⟩)) := by
  have hs := h.below.size
  have hb1 : Below W0.heap.size W0 ((wr.drew.alloc (.cells #[.int .i64 (nth ks (2 * k + 1)), G0 k, G1 k, G2 k, G3 k, .pointer none] 90)).alloc o) :=
    (h.below.drew.alloc hs _).alloc (by rw [World.size_alloc]; exact Nat.le_trans hs (Nat.le_succ _)) _
  have hb2 : Below W0.heap.size W0 w1 := hb1.grown hgrow hb1.size (fun j hj => (h.row.lt j hj).1)
  have p1 : Persist wr ((wr.drew.alloc (.cells #[.int .i64 (nth ks (2 * k + 1)), G0 k, G1 k, G2 k, G3 k, .pointer none] 90)).alloc o) :=
    Persist.trans (show Persist wr _ from Persist.alloc wr.drew _) (Persist.alloc _ _)
  have hr1 := (h.row.drew.alloc (.cells #[.int .i64 (nth ks (2 * k + 1)), G0 k, G1 k, G2 k, G3 k, .pointer none] 90)).alloc o
  have p2 : Persist ((wr.drew.alloc (.cells #[.int .i64 (nth ks (2 * k + 1)), G0 k, G1 k, G2 k, G3 k, .pointer none] 90)).alloc o) w1 := Persist.grown hr1 hgrow
  have p3 := Persist.alloc w1 (.cells #[.int .i64 (nth ks (2 * k)), .iface 88 (.pointer (some ⟨wr.heap.size, 0, none⟩)), gp] 93)
  have hp := (p1.trans p2).trans p3
  have hfn : (w1.alloc (.cells #[.int .i64 (nth ks (2 * k)), .iface 88 (.pointer (some ⟨wr.heap.size, 0, none⟩)), gp] 93)).heap[wr.heap.size]? = some (.cells #[.int .i64 (nth ks (2 * k + 1)), G0 k, G1 k, G2 k, G3 k, .pointer none] 90 (0, 0)) :=
    (p2.trans p3) _ _ _ _ (.inl rfl) ((Persist.alloc _ o) _ _ _ _ (.inl rfl) (World.alloc_heap_new wr.drew _))
  refine ⟨hb2.alloc hb2.size _, by simp [h.len], ?_, ?_, ?_, ?_, ?_⟩
  · intro b hb
    rcases List.mem_append.1 hb with hb | hb
    · exact h.lo b hb
    · simp at hb; omega
  · rw [List.nodup_append]
    refine ⟨h.nodup, by simp, fun x hx y hy => ?_⟩
    obtain ⟨i, hi, rfl⟩ := List.getElem_of_mem hx
    have := (Array.getElem?_eq_some_iff.1 (h.fnb i hi)).1
    simp at hy; omega
  · intro j hj
    by_cases hjk : j < bs.length
    · rw [List.getElem_append_left hjk]
      exact hp _ _ _ _ (.inl rfl) (h.fnb j hjk)
    · have : j = k := by simp at hj; have := h.len; omega
      subst this
      have h' : (bs ++ [wr.heap.size])[j] = wr.heap.size := by rw [List.getElem_append_right (by omega)]; simp
      rw [h', hfn, hkn]
  · have := hown.alloc (.cells #[.int .i64 (nth ks (2 * k)), .iface 88 (.pointer (some ⟨wr.heap.size, 0, none⟩)), gp] 93)
    simpa using this
  · refine .succ (h.lk.persist (fun b cs fr hh => hp b cs _ fr (.inr rfl) hh) (List.prefix_append _ _)) hb2.size (f := wr.heap.size) ?_ (World.alloc_heap_new w1 _)
    rw [← h.len, List.getElem?_append_right (Nat.le_refl _)]; simp
/-- the functions get to know -/
theorem FixIn.know (h : FixIn W0 wr ks G0 G1 G2 G3 ge k kn bs v gp) {j : Nat} (hj : j < bs.length) (u : Value) :
    FixIn W0 (wr.setCell ⟨bs[j], 5, none⟩ u) ks G0 G1 G2 G3 ge k (fun i => if i = j then u else kn i) bs v gp := by
  have hlo := h.lo _ (List.getElem_mem hj)
  have hfj := h.fnb j hj
  refine ⟨h.below.setCell (p := ⟨bs[j], 5, none⟩) hlo _, h.len, h.lo, h.nodup, ?_, ?_, ?_⟩
  · intro i hi
    by_cases hij : i = j
    · subst hij
      rw [heap_set_self hfj]
      simp
    · have hne : bs[i] ≠ bs[j] := fun e => by
        have hp := List.pairwise_iff_getElem.1 h.nodup
        rcases Nat.lt_or_gt_of_ne hij with hlt | hgt
        · exact hp i j hi hj hlt e
        · exact hp j i hj hi hgt e.symm
      rw [heap_set_ne hne, h.fnb i hi]
      simp [hij]
  · refine h.row.kept (row := some bs[j]) ⟨rfl, rfl, rfl, by simp [World.setCell], fun i hi hne => heap_set_ne (fun e => hne (by rw [e])) _ _⟩ ?_
    rcases h.row.2 with ⟨rfl, _⟩ | ⟨g, cap, cur, rfl, _, hgg, _⟩
    · exact .inl rfl
    · refine .inr ?_
      simp only [Value.ownBlock, ne_eq, Option.some.injEq]
      rintro rfl
      have := hfj.symm.trans hgg
      simp only [Option.some.injEq, Obj.cells.injEq] at this
      exact absurd this.2.1 (by decide)
  · refine h.lk.persist (fun b cs fr hh => ?_) (List.prefix_refl _)
    refine (heap_set_ne ?_ _ _).trans hh
    rintro rfl
    have := hfj.symm.trans hh
    simp only [Option.some.injEq, Obj.cells.injEq] at this
    exact absurd this.2.1 (by decide)
end

section
variable {rb B : Nat} {inp : List Int} {fuel n : Nat} {s : St} {m : Mem} {W W0 W' : World}
/-- what is known behind it -/
theorem LinkIn.env {ks : List Int} {bs : List Nat} {ge : Value} {k : Nat} {gp : Value} (h : LinkIn W0.heap.size W' ks bs ge k gp) (hm : ∀ k, W0.heap.size ≤ k → ¬ m.apart rb k) (hk : 2 * k ≤ ks.length) {m' : Mem} (hm' : ∀ k, m'.apart rb k ↔ m.apart rb k) (hfa : ∀ j b, bs[j]? = some b → m'.fa[s.fns.length + j]? = some b)
    {e : PEnv} (he : EnvIn rb m' W' e ge) : EnvIn rb m' W' (fixEnv (ks.take (2 * k)) s.fns.length e) gp := by
  induction h with
  | zero => simpa [fixEnv] using he
  | @succ k gp b f h hlo hf hb ih =>
    rw [fixEnv_take ks _ _ (by omega)]
    exact .cons ⟨hb, fun hx => hm b hlo ((hm' b).1 hx)⟩ (.fn (hfa _ _ hf)) (ih (by omega))

theorem Good.fixed (hg : Good rb B inp fuel s m W) (hW0 : Below W.heap.size W W0) {ks : List Int} {cs : List Core} {Ac : Option Addr} {b o : Nat} {G0 G1 G2 G3 : Nat → Value} (hK : KidsIn B W Ac cs b o G0 G1 G2 G3) (hwt : ∀ c ∈ cs, WT c) {q : Nat} (hks : ks.length = 2 * q) (hq : q ≤ cs.length)
    {e : PEnv} {ge : Value} (he : EnvIn rb m W e ge) {bs : List Nat} {v gp : Value} (h : FixIn W0 W' ks G0 G1 G2 G3 ge q (fun _ => gp) bs v gp) :
    Good rb B inp fuel { s with fns := s.fns ++ fixFns (fixEnv ks s.fns.length e) ks cs } { m with fa := m.fa ++ bs } W' ∧ Evo rb m { m with fa := m.fa ++ bs } W W' ∧ EnvIn rb { m with fa := m.fa ++ bs } W' (fixEnv ks s.fns.length e) gp := by
  have hsz := hW0.size
  have hbW : Below W.heap.size W W' := hW0.trans (h.below.mono hsz)
  have hk : Evo rb m { m with fa := m.fa ++ bs } W W' := (Evo.below hbW).more (List.prefix_append _ _) (List.prefix_refl _) (fun k hk => .inl hk)
  have hgW := hg.below hbW
  have henv : EnvIn rb { m with fa := m.fa ++ bs } W' (fixEnv ks s.fns.length e) gp := by
    have := h.lk.env (s := s) (m := m) (m' := { m with fa := m.fa ++ bs }) (rb := rb) (fun k hk hm => by have := hg.apartLt hm; omega) (by omega) (fun k => Iff.rfl) (fun j f hf => ?_) (he.evo hk)
    · rwa [List.take_of_length_le (by omega)] at this
    · show (m.fa ++ bs)[s.fns.length + j]? = _
      rw [← hg.falen, List.getElem?_append_right (by omega)]
      simpa using hf
  have hl : (fixFns (fixEnv ks s.fns.length e) ks cs).length = q := fixFns_length _ q ks cs hks hq
  refine ⟨⟨hgW.Bs, hg.rbB, hg.left, hg.fuelB, hg.bnd, hgW.run, hgW.out, ?_, ?_, hg.calen, ?_, hg.nodup, hg.rbca, hg.rbo, hg.oca, hg.caB, hg.privEvo hk⟩, hk, henv⟩
  · show (m.fa ++ bs).length = (s.fns ++ _).length
    simp [hg.falen, hl, h.len]
  · intro i hi
    by_cases hi' : i < s.fns.length
    · obtain ⟨b', c0, c1, c2, c3, kp, h1, h2, h3, h4, h5⟩ := hg.fnsEvo hk i hi'
      simp only [List.getElem_append_left hi']
      exact ⟨b', c0, c1, c2, c3, kp, h1, h2, h3, h4, h5⟩
    · have hj : i - s.fns.length < q := by simp [hl] at hi; omega
      have hjb : i - s.fns.length < bs.length := by rw [h.len]; exact hj
      have hget := fixFns_get (fixEnv ks s.fns.length e) q ks cs hks hq (i - s.fns.length) hj
      have hget' : (s.fns ++ fixFns (fixEnv ks s.fns.length e) ks cs)[i] = ⟨nth ks (2 * (i - s.fns.length) + 1), cs[i - s.fns.length], fixEnv ks s.fns.length e⟩ := by
        rw [List.getElem_append_right (by omega)]
        rw [List.getElem?_eq_getElem (by omega)] at hget
        exact Option.some.inj hget
      simp only [hget']
      refine ⟨bs[i - s.fns.length], _, _, _, _, gp, ?_, ⟨h.fnb _ hjb, ?_⟩, (hK.hsub _ (by omega)).stay (hg.stay hk), hwt _ (List.getElem_mem _), henv⟩
      · show (m.fa ++ bs)[i]? = _
        rw [List.getElem?_append_right (by rw [hg.falen]; omega), hg.falen, List.getElem?_eq_getElem hjb]
      · intro hm
        have := hg.apartLt (k := bs[i - s.fns.length]) hm
        have := h.lo _ (List.getElem_mem hjb)
        omega
  · intro i hi
    obtain ⟨b', gv, h1, h2, h3⟩ := hg.cells i hi
    exact ⟨b', gv, h1, (hbW.block b' (Array.getElem?_eq_some_iff.1 h2).1).trans h2, h3.evo hk⟩
end
end Go.Proofs.YtnolhcdfknjncaaDoor

/-
  The program's evaluator: functions that know one another: the walk.
-/
set_option linter.unusedVariables false
set_option linter.unusedSimpArgs false
namespace Go.Proofs.YtnolhcdfknjncaaDoor
open Go.RowKit

theorem infoFn : (Tryd.prog.info? 88).map (fun i => (i.zero, i.size, i.bytes)) = some (some (.pointer none), 1, 8) := by kernel_rfl

theorem und125 : Tryd.prog.underlying 125 = some (.slice 88) := by kernel_rfl

def FixPost (rb B : Nat) (inp : List Int) (fuel : Nat) (s : St) (m : Mem) (W : World) (t : Core) (e : PEnv) (en : Ending) (W' : World) : Prop :=
  ∃ m' gp, en = .returned (.pointer gp) ∧ Good rb B inp fuel { s with fns := s.fns ++ fixFns (fixEnv t.ks s.fns.length e) t.ks t.cs } m' W' ∧ Evo rb m m' W W' ∧ EnvIn rb m' W' (fixEnv t.ks s.fns.length e) (.pointer gp)

set_option maxRecDepth 100000 in
set_option maxHeartbeats 4000000 in
theorem fixed_any {rb B : Nat} {inp : List Int} {fuel : Nat} {s : St} {m : Mem} {W : World} (hg : Good rb B inp fuel s m W) {t : Core} {v : Array Value} (hin : CoreIn B W t v) (hwt : WT t) (hk6 : t.k = 6) {e : PEnv} {ge : Value} (he : EnvIn rb m W e ge) :
    Calls Tryd.prog 42 #[.agg v, ge] W (FixPost rb B inp fuel s m W t e) := by
  obtain ⟨k0, n0, ks, cs, Ak, ck, Ac, cc, b, o, G0, G1, G2, G3, rfl, rfl, hks, hck, hcc, hK⟩ := hin.open_
  have hcnt := hwt.node.2.2.2.1
  simp only [Core.k] at hk6
  subst hk6
  simp only [Core.k, Core.ks, Core.cs, Core.n, cntB, if_true] at hcnt
  have hcnt := of_decide_eq_true hcnt
  obtain ⟨q, hq⟩ : ∃ q, ks.length = 2 * q := ⟨ks.length / 2, by omega⟩
  have hcl : cs.length = q + 1 := by omega
  have hq1 : 1 ≤ q := by omega
  obtain ⟨pk, rfl⟩ := he.shape
  obtain ⟨bk, ok, rfl, hbk, hkc⟩ := hks.at_ (by omega)
  have hlen64 : q ≤ 10000000000000 := by have := hks.1; omega
  obtain ⟨rfl, hbB⟩ := hK.hA (by omega)
  have hBs := hg.Bs
  rw [hq, hcl]
  obtain ⟨W0, hW0⟩ : ∃ W0, W.alloc (.cells #[.int .i64 6, .int .i64 n0, .slice (some ⟨bk, ok, none⟩) (2 * q) ck, .slice (some ⟨b, o, none⟩) (q + 1) cc] 26) = W0 := ⟨_, rfl⟩
  have hb0 : Below W.heap.size W W0 := by rw [← hW0]; exact (Below.refl _ _).alloc (Nat.le_refl _) _
  have hsz0 : W0.heap.size = W.heap.size + 1 := by rw [← hW0]; simp
  have hc2 : W0.cell? ⟨W.heap.size, 2, none⟩ = some (.slice (some ⟨bk, ok, none⟩) (2 * q) ck) := by rw [← hW0, World.cell?_alloc_at _ _ _ _ rfl]; rfl
  have hc3 : W0.cell? ⟨W.heap.size, 3, none⟩ = some (.slice (some ⟨b, o, none⟩) (q + 1) cc) := by rw [← hW0, World.cell?_alloc_at _ _ _ _ rfl]; rfl
  -- what is read in a round
  have HR := Lib.hid (fun (V : World) (k : Nat) (hV : Below W0.heap.size W0 V) (hk : k < q) =>
    (show V.cell? ⟨W.heap.size, 2, none⟩ = some (.slice (some ⟨bk, ok, none⟩) (2 * q) ck) ∧ V.cell? ⟨W.heap.size, 3, none⟩ = some (.slice (some ⟨b, o, none⟩) (q + 1) cc) ∧
        V.cell? ⟨bk, ok + 2 * k, none⟩ = some (.int .i64 (nth ks (2 * k))) ∧ V.cell? ⟨bk, ok + (2 * k + 1), none⟩ = some (.int .i64 (nth ks (2 * k + 1))) ∧
        V.cell? ⟨b, o + k * 4, none⟩ = some (G0 k) ∧ V.cell? ⟨b, o + k * 4 + 1, none⟩ = some (G1 k) ∧ V.cell? ⟨b, o + k * 4 + 2, none⟩ = some (G2 k) ∧ V.cell? ⟨b, o + k * 4 + 3, none⟩ = some (G3 k) from
      have hbb : Below B W V := (hb0.mono hBs).trans (hV.mono (by omega))
      ⟨(hV.cell (p := ⟨_, _, none⟩) (by show W.heap.size < _; omega)).trans hc2, (hV.cell (p := ⟨_, _, none⟩) (by show W.heap.size < _; omega)).trans hc3,
       (hbb.cell (p := ⟨_, _, none⟩) hbk).trans (hkc _ (by omega)), (hbb.cell (p := ⟨_, _, none⟩) hbk).trans (hkc _ (by omega)),
       (hbb.cell (p := ⟨_, _, none⟩) hbB).trans (hK.c0 k (by omega)), (hbb.cell (p := ⟨_, _, none⟩) hbB).trans (hK.c1 k (by omega)), (hbb.cell (p := ⟨_, _, none⟩) hbB).trans (hK.c2 k (by omega)), (hbb.cell (p := ⟨_, _, none⟩) hbB).trans (hK.c3 k (by omega))⟩))
  have HE := Lib.hid (fun (W' : World) (bs : List Nat) (v : Value) (gp : Option Addr) (h : FixIn W0 W' ks G0 G1 G2 G3 (.pointer pk) q (fun _ => .pointer gp) bs v (.pointer gp)) =>
    (show FixPost rb B inp fuel s m W (.mk 6 n0 ks cs) e (.returned (.pointer gp)) W' from by
      obtain ⟨g1, g2, g3⟩ := hg.fixed hb0 hK (fun c hc => hwt.kid hc) hq (by omega) he h
      exact ⟨_, gp, rfl, g1, g2, g3⟩))
  have HG := Lib.hid (fun (k : Nat) (hk : k < q) => (hK.hsub k (by omega)).shape)
  have HC2 := Lib.hid hc2
  have HB := Lib.hid (show W.heap.size < W0.heap.size by omega)
  obtain ⟨i0, hinf, hz0, hz1, hz2⟩ := info_parts infoFn
  clear hc2 hc3 hkc hK hks hcnt hg he hwt hin hb0 hsz0 hck hcc hcl hq
  go_enter Tryd.func42, Tryd.ntmps42
  go_wp2_with fail
  go_loopw [6, 5, 1] (fun i l kn wr => ∃ (k : Nat) (bs : List Nat), k ≤ q ∧ i = .int .i64 (2 * (k : Int)) ∧ FixIn W0 wr ks G0 G1 G2 G3 (.pointer pk) k (fun _ => .pointer none) bs l kn) (fun i _ _ _ => 2 * q + 2 - (intOf i).toNat)
  case atStart => exact ⟨0, [], by omega, rfl, FixIn.start _ _ _ _ _ _ _ _⟩
  case round =>
    obtain ⟨k, bs, hk, rfl, hF⟩ := hrel
    by_cases hlt : k < q
    · obtain ⟨r2, r3, r4, r5, r6, r7, r8, r9⟩ := HR.out wr k hF.below hlt
      obtain ⟨kp, rfl⟩ := hF.lk.shape ⟨_, rfl⟩
      have hlt' : 2 * (k : Int) + 1 < 2 * (q : Int) := by omega
      have hlt2 : (k : Int) < (q : Int) + 1 := by omega
      have hq2 : (2 * (k : Int)).tdiv 2 = (k : Int) := by rw [Int.mul_comm]; exact Int.mul_tdiv_cancel _ (by decide)
      have hw1 : IntKind.i64.wrap (2 * (k : Int) + 1) = 2 * (k : Int) + 1 := by rw [IntKind.wrap_i64]; omega
      have hw2 : IntKind.i64.wrap (k : Int) = (k : Int) := by rw [IntKind.wrap_i64]; omega
      have hge : (0 : Int) ≤ 2 * (k : Int) + 1 := by omega
      have hge2 : (0 : Int) ≤ 2 * (k : Int) := by omega
      have hlt3 : 2 * (k : Int) < 2 * (q : Int) := by omega
      have hn2 : (2 * (k : Int)).toNat = 2 * k := by omega
      have hn1 : (2 * (k : Int) + 1).toNat = 2 * k + 1 := by omega
      have hml : k + 1 ≤ maxLen := by unfold maxLen; omega
      obtain ⟨g0, g1, A2, n2, d2, A3, n3, d3, hsh⟩ := HG.out k hlt
      simp only [Array.mk.injEq, List.cons.injEq, and_true] at hsh
      obtain ⟨s0, s1, s2, s3⟩ := hsh
      rw [s0] at r6
      rw [s1] at r7
      rw [s2] at r8
      rw [s3] at r9
      have S0 := Lib.hid s0
      have S1 := Lib.hid s1
      have S2 := Lib.hid s2
      have S3 := Lib.hid s3
      clear s0 s1 s2 s3
      have HS := Lib.hid (fun (V : World) (hV : Below wr.heap.size wr V) => (show V.cell? ⟨W.heap.size, 2, none⟩ = some (.slice (some ⟨bk, ok, none⟩) (2 * q) ck) ∧ V.cell? ⟨W.heap.size, 3, none⟩ = some (.slice (some ⟨b, o, none⟩) (q + 1) cc) ∧
        V.cell? ⟨bk, ok + (2 * k + 1), none⟩ = some (.int .i64 (nth ks (2 * k + 1))) ∧
        V.cell? ⟨b, o + k * 4, none⟩ = some (.int .i64 g0) ∧ V.cell? ⟨b, o + k * 4 + 1, none⟩ = some (.int .i64 g1) ∧ V.cell? ⟨b, o + k * 4 + 2, none⟩ = some (.slice A2 n2 d2) ∧ V.cell? ⟨b, o + k * 4 + 3, none⟩ = some (.slice A3 n3 d3) from
        ⟨cell_behind hV r2, cell_behind hV r3, cell_behind hV r5, cell_behind hV r6, cell_behind hV r7, cell_behind hV r8, cell_behind hV r9⟩))
      go_wp2_with fail
      go_region_held2 (fun V => V.cell? ⟨W.heap.size, 2, none⟩ = some (.slice (some ⟨bk, ok, none⟩) (2 * q) ck) ∧ V.cell? ⟨W.heap.size, 3, none⟩ = some (.slice (some ⟨b, o, none⟩) (q + 1) cc) ∧
        V.cell? ⟨bk, ok + (2 * k + 1), none⟩ = some (.int .i64 (nth ks (2 * k + 1))) ∧
        V.cell? ⟨b, o + k * 4, none⟩ = some (.int .i64 g0) ∧ V.cell? ⟨b, o + k * 4 + 1, none⟩ = some (.int .i64 g1) ∧ V.cell? ⟨b, o + k * 4 + 2, none⟩ = some (.slice A2 n2 d2) ∧ V.cell? ⟨b, o + k * 4 + 3, none⟩ = some (.slice A3 n3 d3))
        (first | exact HS.out _ (Below.refl _ _).drew | exact HS.out _ ((Below.refl _ _).drew.alloc (Nat.le_refl _) _)) (fail)
      have hbel2 : Below wr.heap.size wr ((wr.alloc (.cells #[.int .i64 (nth ks (2 * k + 1)), .int .i64 g0, .int .i64 g1, .slice A2 n2 d2, .slice A3 n3 d3, .pointer none] 90)).alloc (.cells #[.pointer (some ⟨wr.heap.size, 0, none⟩)] 88)).drew := (((Below.refl _ _).alloc (Nat.le_refl _) _).alloc (by rw [World.size_alloc]; exact Nat.le_succ _) _).drew
      have hsz2 : wr.heap.size ≤ ((wr.alloc (.cells #[.int .i64 (nth ks (2 * k + 1)), .int .i64 g0, .int .i64 g1, .slice A2 n2 d2, .slice A3 n3 d3, .pointer none] 90)).alloc (.cells #[.pointer (some ⟨wr.heap.size, 0, none⟩)] 88)).drew.heap.size := hbel2.size
      have hrow : ((wr.alloc (.cells #[.int .i64 (nth ks (2 * k + 1)), .int .i64 g0, .int .i64 g1, .slice A2 n2 d2, .slice A3 n3 d3, .pointer none] 90)).alloc (.cells #[.pointer (some ⟨wr.heap.size, 0, none⟩)] 88)).drew.ownsRow W0.heap.size 88 1 u5 k (bs.map fun b => .pointer (some ⟨b, 0, none⟩)) := ((hF.row.alloc _).alloc _).drew
      have hnews : ∀ j u, [Value.pointer (some ⟨wr.heap.size, 0, none⟩)][j]? = some u → ((wr.alloc (.cells #[.int .i64 (nth ks (2 * k + 1)), .int .i64 g0, .int .i64 g1, .slice A2 n2 d2, .slice A3 n3 d3, .pointer none] 90)).alloc (.cells #[.pointer (some ⟨wr.heap.size, 0, none⟩)] 88)).drew.cell? ((⟨wr.heap.size + 1, 0, none⟩ : Addr).add j) = some u := by
        have := cell_one_new (wr.alloc (.cells #[.int .i64 (nth ks (2 * k + 1)), .int .i64 g0, .int .i64 g1, .slice A2 n2 d2, .slice A3 n3 d3, .pointer none] 90)) (.pointer (some ⟨wr.heap.size, 0, none⟩)) 88
        rw [World.size_alloc] at this
        exact this
      have hwsz := hF.below.size
      have HZ := Lib.hid (fun (w1 : World) (hgrow : ((wr.alloc (.cells #[.int .i64 (nth ks (2 * k + 1)), .int .i64 g0, .int .i64 g1, .slice A2 n2 d2, .slice A3 n3 d3, .pointer none] 90)).alloc (.cells #[.pointer (some ⟨wr.heap.size, 0, none⟩)] 88)).drew.grownBy w1 u5.ownBlock) =>
        have hb1 : Below W0.heap.size W0 w1 := (hF.below.trans (hbel2.mono hwsz)).grown hgrow (Nat.le_trans hwsz hsz2) (fun j hj => (hF.row.lt j hj).1)
        And.intro hb1 (HR.out w1 k hb1 hlt))
      go_wp2_with (at_builtin; refine wpList_append_own _ rfl _ _ 125 rfl W0.heap.size 88 i0 (.pointer none) 1 8 und125 hinf hz0 hz1 hz2 rfl (by decide) _ _ _ rfl hrow ⟨wr.heap.size + 1, 0, none⟩ 1 1 [.pointer (some ⟨wr.heap.size, 0, none⟩)] rfl rfl hnews (by simp [Value.oneCell']) hml (by omega) (by omega) ?_; intro v' w1 hown' hgrow _; obtain ⟨hb1, z2, _, z4, _⟩ := HZ.out w1 hgrow)
      have hgrow' := hgrow
      change World.grownBy _ w1 u5.ownBlock at hgrow'
      have hFm := hF.more rfl (o := .cells #[.pointer (some ⟨wr.heap.size, 0, none⟩)] 88) hown' (by rw [S0.out, S1.out, S2.out, S3.out]; exact hgrow')
      have HF := Lib.hid hFm
      clear hgrow hgrow' hFm hF hown' hrow hnews hbel2 hsz2 r2 r3 r4 r5 r6 r7 r8 r9 hb1
      go_roundw
      case rel => exact ⟨k + 1, bs ++ [wr.heap.size], by omega, by go_num, HF.out⟩
      case measure => simp [intOf]; omega
    · have hkq : k = q := by omega
      subst hkq
      have r2 : wr.cell? ⟨W.heap.size, 2, none⟩ = some (.slice (some ⟨bk, ok, none⟩) (2 * k) ck) := (hF.below.cell (p := ⟨W.heap.size, 2, none⟩) HB.out).trans HC2.out
      have hlt' : ¬ 2 * (k : Int) + 1 < 2 * (k : Int) := by omega
      obtain ⟨kp, rfl⟩ := hF.lk.shape ⟨_, rfl⟩
      obtain ⟨gg, cap, rfl⟩ : ∃ g cap, u5 = .slice (some ⟨g, 0, none⟩) k cap := by
        rcases hF.row.2 with ⟨_, h0⟩ | ⟨g, cap, cur, h, _⟩
        · exact absurd h0 (by omega)
        · exact ⟨g, cap, h⟩
      have HK := Lib.hid hk
      clear hk
      have HF := Lib.hid hF
      clear hF
      go_wp2_with fail
      go_loopw [48] (fun i wr2 => ∃ (j : Nat), j ≤ k ∧ i = .int .i64 (j : Int) ∧ FixIn W0 wr2 ks G0 G1 G2 G3 (.pointer pk) k (fun i => if i < j then .pointer kp else .pointer none) bs (.slice (some ⟨gg, 0, none⟩) k cap) (.pointer kp)) (fun i _ => k + 1 - (intOf i).toNat)
      case atStart => exact ⟨0, by omega, rfl, by simpa using HF.out⟩
      case round =>
        obtain ⟨j, hj, rfl, hF⟩ := hrel
        by_cases hlt2 : j < k
        · have hjb : j < bs.length := by rw [hF.len]; exact hlt2
          have hcell : wr.cell? ⟨gg, j, none⟩ = some (.pointer (some ⟨bs[j], 0, none⟩)) := by
            have := World.ownsRow.cells hF.row (g := gg) rfl j (.pointer (some ⟨bs[j], 0, none⟩)) (by simp [List.getElem?_eq_getElem hjb])
            have ha : (⟨gg, 0, none⟩ : Addr).add j = ⟨gg, j, none⟩ := by unfold Addr.add; split <;> simp_all
            rwa [ha] at this
          have hfj := hF.fnb j hjb
          have hc5 : wr.cell? ⟨bs[j], 5, none⟩ = some (.pointer none) := by simp [World.cell?, hfj]
          have hz5 : wr.frozen? ⟨bs[j], 5, none⟩ = false := by simp [World.frozen?, hfj]
          have HN := Lib.hid (hF.know hjb (.pointer kp))
          generalize bs[j] = bj at *
          clear hfj hF
          have hj0 : (0 : Int) ≤ (j : Int) := by omega
          have hjk : (j : Int) < (k : Int) := by omega
          go_wp2_with fail
          go_roundw
          case rel =>
            refine ⟨j + 1, by omega, by go_num, ?_⟩
            have := HN.out
            have he : (fun i : Nat => if i = j then Value.pointer kp else if i < j then .pointer kp else .pointer none) = fun i => if i < j + 1 then Value.pointer kp else .pointer none := by
              funext i
              by_cases h1 : i = j
              · simp [h1]
              · by_cases h2 : i < j
                · simp [h1, h2, show i < j + 1 by omega]
                · simp [h1, h2, show ¬ i < j + 1 by omega]
            rwa [he] at this
          case measure => simp [intOf]; omega
        · have hjk : j = k := by omega
          subst hjk
          have HF := Lib.hid hF
          clear hF
          go_wp2_with fail
          go_ret
          refine HE.out _ bs (.slice (some ⟨gg, 0, none⟩) j cap) kp ?_
          have hF := HF.out
          refine ⟨hF.below, hF.len, hF.lo, hF.nodup, fun i hi => ?_, hF.row, hF.lk⟩
          have := hF.fnb i hi
          rw [hF.len] at hi
          simpa [hi] using this
end Go.Proofs.YtnolhcdfknjncaaDoor

/-
  The program's evaluator: a term's frame; the closure that evaluates a Kid.
-/
set_option linter.unusedVariables false
set_option linter.unusedSimpArgs false
namespace Go.Proofs.YtnolhcdfknjncaaDoor
open Go.RowKit

/-- the three variables of a term's frame that the closure sees -/
structure TermAt (rb B : Nat) (m : Mem) (V : World) (t : Core) (v : Array Value) (e : PEnv) (ge : Value) (b0 : Nat) : Prop where
  r : At rb m V b0 (.cells #[.pointer (some ⟨rb, 0, none⟩)] 49 (0, 0))
  c : At rb m V (b0 + 1) (.cells v 26 (0, 0))
  k : At rb m V (b0 + 2) (.cells #[ge] 83 (0, 0))
  core : CoreIn B V t v
  env : EnvIn rb m V e ge
theorem TermAt.evo {rb B : Nat} {inp : List Int} {fuel : Nat} {s : St} {m m' : Mem} {V V' : World} {t : Core} {v : Array Value} {e : PEnv} {ge : Value} {b0 : Nat} (h : TermAt rb B m V t v e ge b0) (hg : Good rb B inp fuel s m V) (hk : Evo rb m m' V V') : TermAt rb B m' V' t v e ge b0 :=
  ⟨h.r.evo hk, h.c.evo hk, h.k.evo hk, h.core.stay (hg.stay hk), h.env.evo hk⟩

set_option maxRecDepth 100000 in
set_option maxHeartbeats 4000000 in
theorem kid_term {rb B : Nat} {inp : List Int} {fuel n : Nat} (hok : TermOk rb B inp fuel n) {s : St} {m : Mem} {V : World} (hg : Good rb B inp fuel s m V) {t : Core} {v : Array Value} {e : PEnv} {ge : Value} {b0 : Nat} (hT : TermAt rb B m V t v e ge b0) (hwt : WT t) {i : Nat} (hi : i < t.cs.length) (hn : s.left < n) :
    Calls Tryd.prog 38 #[.int .i64 (i : Int), .pointer (some ⟨b0, 0, none⟩), .pointer (some ⟨b0 + 1, 0, none⟩), .pointer (some ⟨b0 + 2, 0, none⟩)] V (EvPost rb B inp fuel m V (ev inp n t.cs[i] e s)) := by
  obtain ⟨k0, n0, ks, cs, Ak, ck, Ac, cc, b, o, G0, G1, G2, G3, rfl, rfl, hks, hck, hcc, hK⟩ := hT.core.open_
  simp only [Core.cs] at hi ⊢
  obtain ⟨rfl, hbB⟩ := hK.hA (by omega)
  obtain ⟨pk, rfl⟩ := hT.env.shape
  obtain ⟨g0, g1, A2, n2, d2, A3, n3, d3, hsh⟩ := (hK.hsub i hi).shape
  have hs := hsh
  simp only [Array.mk.injEq, List.cons.injEq, and_true] at hsh
  obtain ⟨s0, s1, s2, s3⟩ := hsh
  have HS := Lib.hid (fun (V' : World) (m' : Mem) (hE : Evo rb m m' V V') => (show V'.cell? ⟨b0, 0, none⟩ = some (.pointer (some ⟨rb, 0, none⟩)) ∧ V'.cell? ⟨b0 + 1, 3, none⟩ = some (.slice (some ⟨b, o, none⟩) cs.length cc) ∧ V'.cell? ⟨b0 + 2, 0, none⟩ = some (.pointer pk) ∧
      V'.cell? ⟨b, o + i * 4, none⟩ = some (.int .i64 g0) ∧ V'.cell? ⟨b, o + i * 4 + 1, none⟩ = some (.int .i64 g1) ∧ V'.cell? ⟨b, o + i * 4 + 2, none⟩ = some (.slice A2 n2 d2) ∧ V'.cell? ⟨b, o + i * 4 + 3, none⟩ = some (.slice A3 n3 d3) from by
    have hst := hg.stay hE
    refine ⟨at_cell0 (hT.r.evo hE) rfl, at_cell0 (hT.c.evo hE) rfl, at_cell0 (hT.k.evo hE) rfl, ?_, ?_, ?_, ?_⟩
    · rw [← s0]; exact hst _ _ _ hbB (hK.c0 i hi)
    · rw [← s1]; exact hst _ _ _ hbB (hK.c1 i hi)
    · rw [← s2]; exact hst _ _ _ hbB (hK.c2 i hi)
    · rw [← s3]; exact hst _ _ _ hbB (hK.c3 i hi)))
  have hd : Evo rb m m V V.drew := (Evo.refl _ _ _).drew
  have HC := Lib.hid ((hok cs[i] e s m V.drew #[.int .i64 g0, .int .i64 g1, .slice A2 n2 d2, .slice A3 n3 d3] (.pointer pk) (by rw [← hs]; exact (hK.hsub i hi).stay (hg.stay hd)) (hwt.kid (List.getElem_mem hi)) (hT.env.evo hd) (hg.below (Below.refl _ _).drew) hn).mono fun en V' h => (show EvPost rb B inp fuel m V (ev inp n cs[i] e s) en V' from h.from_ hd))
  generalize ev inp n cs[i] e s = out at *
  have hi0 : (0 : Int) ≤ (i : Int) := by omega
  have hi1 : (i : Int) < (cs.length : Int) := by omega
  have hi2 : (i : Int).toNat = i := by omega
  clear hok hg hT hwt hK hks hck hcc hs s0 s1 s2 s3 hd
  generalize cs.length = L at *
  go_enter Tryd.func38, Tryd.ntmps38
  go_wp2_with fail
  go_region_held2 (fun V' => V'.cell? ⟨b0, 0, none⟩ = some (.pointer (some ⟨rb, 0, none⟩)) ∧ V'.cell? ⟨b0 + 1, 3, none⟩ = some (.slice (some ⟨b, o, none⟩) L cc) ∧ V'.cell? ⟨b0 + 2, 0, none⟩ = some (.pointer pk) ∧
      V'.cell? ⟨b, o + i * 4, none⟩ = some (.int .i64 g0) ∧ V'.cell? ⟨b, o + i * 4 + 1, none⟩ = some (.int .i64 g1) ∧ V'.cell? ⟨b, o + i * 4 + 2, none⟩ = some (.slice A2 n2 d2) ∧ V'.cell? ⟨b, o + i * 4 + 3, none⟩ = some (.slice A3 n3 d3))
    (first | exact HS.out _ _ (Evo.refl _ _ _).drew | exact HS.out _ _ hEV)
    ((go_at_call 26; refine HC.out.mono ?_; rintro en w' h; obtain ⟨mE, hEV⟩ := h.evo; rcases h.ends with ⟨g, rfl, hP⟩ | ⟨ch, rfl, hP⟩; rotate_left; exact ⟨rfl, hP⟩))
  all_goals (go_wp2_with fail; go_ret; exact hP)
end Go.Proofs.YtnolhcdfknjncaaDoor

/-
  The program's evaluator: a term's frame.
-/
set_option linter.unusedVariables false
set_option linter.unusedSimpArgs false
namespace Go.Proofs.YtnolhcdfknjncaaDoor
open Go.RowKit

/-- the world in which a term's frame stands: its three variables -/
def frameW (W : World) (rb : Nat) (v : Array Value) (ge : Value) : World :=
  ((W.alloc (.cells #[.pointer (some ⟨rb, 0, none⟩)] 49)).alloc (.cells v 26)).alloc (.cells #[ge] 83)

theorem frame_at {rb B : Nat} {inp : List Int} {fuel : Nat} {s : St} {m : Mem} {W : World} (hg : Good rb B inp fuel s m W) {t : Core} {v : Array Value} (hin : CoreIn B W t v) {e : PEnv} {ge : Value} (he : EnvIn rb m W e ge) :
    Below W.heap.size W (frameW W rb v ge) ∧ Good rb B inp fuel s m (frameW W rb v ge) ∧ TermAt rb B m (frameW W rb v ge) t v e ge W.heap.size := by
  have hb1 : Below W.heap.size W (W.alloc (.cells #[.pointer (some ⟨rb, 0, none⟩)] 49)) := (Below.refl _ _).alloc (Nat.le_refl _) _
  have hg1 := hg.below hb1
  have hs1 : (W.alloc (.cells #[.pointer (some ⟨rb, 0, none⟩)] 49)).heap.size = W.heap.size + 1 := by simp
  have hb2 : Below (W.heap.size + 1) (W.alloc (.cells #[.pointer (some ⟨rb, 0, none⟩)] 49)) ((W.alloc (.cells #[.pointer (some ⟨rb, 0, none⟩)] 49)).alloc (.cells v 26)) := (Below.refl _ _).alloc (by omega) _
  have hg2 := hg1.below (hs1 ▸ hb2)
  have hs2 : ((W.alloc (.cells #[.pointer (some ⟨rb, 0, none⟩)] 49)).alloc (.cells v 26)).heap.size = W.heap.size + 2 := by simp
  have hb3 : Below (W.heap.size + 2) ((W.alloc (.cells #[.pointer (some ⟨rb, 0, none⟩)] 49)).alloc (.cells v 26)) (frameW W rb v ge) := (Below.refl _ _).alloc (by omega) _
  have hg3 := hg2.below (hs2 ▸ hb3)
  have hb : Below W.heap.size W (frameW W rb v ge) := hb1.trans ((hb2.mono (by omega)).trans (hb3.mono (by omega)))
  have hk := Evo.below (rb := rb) (m := m) hb
  have a1 := at_new (fun k hk => hg.apartLt hk) #[.pointer (some ⟨rb, 0, none⟩)] 49
  have a2 := at_new (fun k hk => hg1.apartLt hk) v 26
  have a3 := at_new (fun k hk => hg2.apartLt hk) #[ge] 83
  rw [hs1] at a2
  rw [hs2] at a3
  exact ⟨hb, hg3, (a1.evo (Evo.below (hs1 ▸ hb2))).evo (Evo.below (hs2 ▸ hb3)), a2.evo (Evo.below (hs2 ▸ hb3)), a3, hin.stay (hg.stay hk), he.evo hk⟩

/-- a function more -/
theorem Good.addFn {rb B : Nat} {inp : List Int} {fuel : Nat} {s : St} {m : Mem} {W : World} (hg : Good rb B inp fuel s m W) {p : Int} {c : Core} {c0 c1 c2 c3 : Value} (hc : CoreIn B W c #[c0, c1, c2, c3]) (hw : WT c) {e : PEnv} {ge : Value} (he : EnvIn rb m W e ge) :
    Good rb B inp fuel { s with fns := s.fns ++ [⟨p, c, e⟩] } { m with fa := m.fa ++ [W.heap.size] } (W.alloc (.cells #[.int .i64 p, c0, c1, c2, c3, ge] 90)) ∧ Evo rb m { m with fa := m.fa ++ [W.heap.size] } W (W.alloc (.cells #[.int .i64 p, c0, c1, c2, c3, ge] 90)) ∧
      RepV rb { m with fa := m.fa ++ [W.heap.size] } (W.alloc (.cells #[.int .i64 p, c0, c1, c2, c3, ge] 90)) (.fn s.fns.length) (.iface 88 (.pointer (some ⟨W.heap.size, 0, none⟩))) := by
  have hb : Below W.heap.size W (W.alloc (.cells #[.int .i64 p, c0, c1, c2, c3, ge] 90)) := (Below.refl _ _).alloc (Nat.le_refl _) _
  have hk : Evo rb m { m with fa := m.fa ++ [W.heap.size] } W (W.alloc (.cells #[.int .i64 p, c0, c1, c2, c3, ge] 90)) := (Evo.below hb).more (List.prefix_append _ _) (List.prefix_refl _) (fun k h => .inl h)
  have hgW := hg.below hb
  have hget : (m.fa ++ [W.heap.size])[s.fns.length]? = some W.heap.size := by
    rw [← hg.falen, List.getElem?_append_right (Nat.le_refl _)]; simp
  refine ⟨⟨hgW.Bs, hg.rbB, hg.left, hg.fuelB, hg.bnd, hgW.run, hgW.out, ?_, ?_, hg.calen, ?_, hg.nodup, hg.rbca, hg.rbo, hg.oca, hg.caB, hg.privEvo hk⟩, hk, .fn hget⟩
  · show (m.fa ++ [W.heap.size]).length = (s.fns ++ [_]).length
    simp [hg.falen]
  · intro i hi
    by_cases hi' : i < s.fns.length
    · obtain ⟨b', d0, d1, d2, d3, kp, h1, h2, h3, h4, h5⟩ := hg.fnsEvo hk i hi'
      simp only [List.getElem_append_left hi']
      exact ⟨b', d0, d1, d2, d3, kp, h1, h2, h3, h4, h5⟩
    · have hj : i = s.fns.length := by simp at hi; omega
      subst hj
      have hget' : (s.fns ++ [(⟨p, c, e⟩ : PFn)])[s.fns.length] = ⟨p, c, e⟩ := by simp
      simp only [hget']
      refine ⟨W.heap.size, c0, c1, c2, c3, ge, hget, ⟨World.alloc_heap_new W _, fun hm => ?_⟩, hc.stay (hg.stay hk), hw, he.evo hk⟩
      have := hg.apartLt (k := W.heap.size) hm
      omega
  · intro i hi
    obtain ⟨b', gv, h1, h2, h3⟩ := hg.cells i hi
    exact ⟨b', gv, h1, (hb.block b' (Array.getElem?_eq_some_iff.1 h2).1).trans h2, h3.evo hk⟩

theorem EvPost.inv {rb B : Nat} {inp : List Int} {fuel : Nat} {m : Mem} {W : World} {o : Out} {e : Ending} {V : World} (h : EvPost rb B inp fuel m W o e V) :
    (∃ v s' m' T x, o = (.val v, s') ∧ e = .returned (.iface T x) ∧ Evo rb m m' W V ∧ Good rb B inp fuel s' m' V ∧ RepV rb m' V v (.iface T x)) ∨
      (∃ ch, e = .panicked ch ∧ (∀ o', (∀ v s', o ≠ (.val v, s')) → (o' = o) → EvPost rb B inp fuel m W o' (.panicked ch) V) ∧ (∀ v s', o ≠ (.val v, s')) ∧ ∀ f, EvPost rb B inp fuel m W (Out.andThen o f) (.panicked ch) V) := by
  cases h with
  | val h1 h2 h3 => obtain ⟨T, x, rfl⟩ := h3.shape; exact .inl ⟨_, _, _, T, x, rfl, rfl, h1, h2, h3⟩
  | raised h1 h2 h3 h4 h5 => exact .inr ⟨_, rfl, fun o' _ e => e ▸ .raised h1 h2 h3 h4 h5, by simp, fun f => .raised h1 h2 h3 h4 h5⟩
  | stuck h1 h2 h3 => exact .inr ⟨_, rfl, fun o' _ e => e ▸ .stuck h1 h2 h3, by simp, fun f => .stuck h1 h2 h3⟩
  | cut h1 h2 h3 => exact .inr ⟨_, rfl, fun o' _ e => e ▸ .cut h1 h2 h3, by simp, fun f => .cut h1 h2 h3⟩

set_option maxRecDepth 100000 in
set_option maxHeartbeats 4000000 in
theorem term_cut {rb B : Nat} {inp : List Int} {fuel n : Nat} {s : St} {m : Mem} {W : World} (hg : Good rb B inp fuel s m W) {t : Core} {v : Array Value} (hin : CoreIn B W t v) {e : PEnv} {ge : Value} (he : EnvIn rb m W e ge) (h0 : s.left = 0) :
    Calls Tryd.prog 26 #[.pointer (some ⟨rb, 0, none⟩), .agg v, ge] W (EvPost rb B inp fuel m W (.cut, s)) := by
  obtain ⟨hb, hg3, hT⟩ := frame_at hg hin he
  obtain ⟨k0, n0, A2, n2, d2, A3, n3, d3, rfl⟩ := hin.shape
  obtain ⟨pk, rfl⟩ := he.shape
  have HP := Lib.hid (fun (V : World) (hV : Below W.heap.size W V) => (show EvPost rb B inp fuel m W (.cut, s) (.panicked (stopV 3)) V from EvPost.cut (Evo.below hV) (hg.below hV) (thrown_one _ _)))
  obtain ⟨Ai, ci, hr, _⟩ := hg3.run
  have r1 : (frameW W rb #[.int .i64 k0, .int .i64 n0, .slice A2 n2 d2, .slice A3 n3 d3] (.pointer pk)).cell? ⟨rb, 1, none⟩ = some (.int .i64 fuel) := by simp [World.cell?, hr]
  have r5 : (frameW W rb #[.int .i64 k0, .int .i64 n0, .slice A2 n2 d2, .slice A3 n3 d3] (.pointer pk)).cell? ⟨rb, 5, none⟩ = some (.int .i64 fuel) := by simp [World.cell?, hr, h0]
  have b0 := at_cell0 hT.r (i := 0) rfl
  simp only [List.getElem_toArray, List.getElem_cons_zero] at b0
  have HB := Lib.hid hb
  unfold frameW at r1 r5 b0 HB
  clear hb hg hg3 hT hin he hr
  go_enter Tryd.func26, Tryd.ntmps26
  go_wp2_with fail
  go_quiet (fail)
  go_wp2_with fail
  exact ⟨rfl, HP.out _ (below_drewN HB.out _)⟩
end Go.Proofs.YtnolhcdfknjncaaDoor

/-
  The program's evaluator: a variable, an int, a function.
-/
set_option linter.unusedVariables false
set_option linter.unusedSimpArgs false
namespace Go.Proofs.YtnolhcdfknjncaaDoor
open Go.RowKit

set_option maxRecDepth 100000 in
set_option maxHeartbeats 4000000 in
theorem term_var {rb B : Nat} {inp : List Int} {fuel n : Nat} (hok : TermOk rb B inp fuel n) {s : St} {m : Mem} {W : World} (hg : Good rb B inp fuel s m W) {t : Core} {v : Array Value} (hin : CoreIn B W t v) (hwt : WT t) {e : PEnv} {ge : Value} (he : EnvIn rb m W e ge) (hn : s.left < n + 1) (h0 : 0 < s.left) (hk : t.k = 1) :
    Calls Tryd.prog 26 #[.pointer (some ⟨rb, 0, none⟩), .agg v, ge] W (EvPost rb B inp fuel m W (bodyP inp (ev inp n) t e { s with left := s.left - 1 })) := by
  obtain ⟨hb, hg3, hT⟩ := frame_at hg hin he
  have hrbl := hg.mutLt (k := rb) (.inl rfl)
  obtain ⟨k0, n0, ks, cs, Ak, ck, Ac, cc, b, o, G0, G1, G2, G3, rfl, rfl, hks, hck, hcc, hK⟩ := hin.open_
  simp only [Core.k] at hk
  subst hk
  obtain ⟨pk, rfl⟩ := he.shape
  obtain ⟨Ai, ci, hr, _⟩ := hg3.run
  have hfu := hg.fuelB
  have hle := hg.left
  have hbn := hg.bnd
  obtain ⟨st, hst⟩ : ∃ st : Int, st = (fuel : Int) - s.left := ⟨_, rfl⟩
  have hst0 : 0 ≤ st := by omega
  have hst1 : st < (fuel : Int) := by omega
  have hst2 : st ≤ 1000000 := by omega
  have r1 : (frameW W rb #[.int .i64 1, .int .i64 n0, .slice Ak ks.length ck, .slice Ac cs.length cc] (.pointer pk)).cell? ⟨rb, 1, none⟩ = some (.int .i64 fuel) := by simp [World.cell?, hr]
  have r5 : (frameW W rb #[.int .i64 1, .int .i64 n0, .slice Ak ks.length ck, .slice Ac cs.length cc] (.pointer pk)).cell? ⟨rb, 5, none⟩ = some (.int .i64 st) := by simp [World.cell?, hr, hst]
  have f5 : (frameW W rb #[.int .i64 1, .int .i64 n0, .slice Ak ks.length ck, .slice Ac cs.length cc] (.pointer pk)).frozen? ⟨rb, 5, none⟩ = false := by simp [World.frozen?, hr]
  have b0 := at_cell0 hT.r (i := 0) rfl
  simp only [List.getElem_toArray, List.getElem_cons_zero] at b0
  have hX : ∀ nq : Nat, Good rb B inp fuel { s with left := s.left - 1 } m (((frameW W rb #[.int .i64 1, .int .i64 n0, .slice Ak ks.length ck, .slice Ac cs.length cc] (.pointer pk)).drewN nq).setCell ⟨rb, 5, none⟩ (.int .i64 (st + 1))) ∧
      Evo rb m m W (((frameW W rb #[.int .i64 1, .int .i64 n0, .slice Ak ks.length ck, .slice Ac cs.length cc] (.pointer pk)).drewN nq).setCell ⟨rb, 5, none⟩ (.int .i64 (st + 1))) ∧
      TermAt rb B m (((frameW W rb #[.int .i64 1, .int .i64 n0, .slice Ak ks.length ck, .slice Ac cs.length cc] (.pointer pk)).drewN nq).setCell ⟨rb, 5, none⟩ (.int .i64 (st + 1))) (.mk 1 n0 ks cs) #[.int .i64 1, .int .i64 n0, .slice Ak ks.length ck, .slice Ac cs.length cc] e (.pointer pk) W.heap.size := by
    intro nq
    have hkd : Evo rb m m (frameW W rb #[.int .i64 1, .int .i64 n0, .slice Ak ks.length ck, .slice Ac cs.length cc] (.pointer pk)) ((frameW W rb #[.int .i64 1, .int .i64 n0, .slice Ak ks.length ck, .slice Ac cs.length cc] (.pointer pk)).drewN nq) := Evo.below (below_drewN (Below.refl _ _) _)
    obtain ⟨q1, q2⟩ := (hg3.below (below_drewN (Below.refl _ _) nq)).step h0
    rw [← hst] at q1 q2
    exact ⟨q1, ((Evo.below hb).trans hkd).trans q2, hT.evo hg3 (hkd.trans q2)⟩
  have x0 := fun nq => (fun (hx : TermAt rb B m (((frameW W rb #[.int .i64 1, .int .i64 n0, .slice Ak ks.length ck, .slice Ac cs.length cc] (.pointer pk)).drewN nq).setCell ⟨rb, 5, none⟩ (.int .i64 (st + 1))) (.mk 1 n0 ks cs) #[.int .i64 1, .int .i64 n0, .slice Ak ks.length ck, .slice Ac cs.length cc] e (.pointer pk) W.heap.size) =>
    (show _ ∧ _ ∧ _ ∧ _ ∧ _ ∧ _ from ⟨at_cell0 hx.r (i := 0) rfl, at_cell0 hx.c (i := 0) rfl, at_cell0 hx.c (i := 1) rfl, at_cell0 hx.c (i := 2) rfl, at_cell0 hx.c (i := 3) rfl, at_cell0 hx.k (i := 0) rfl⟩)) (hX nq).2.2
  have y0 := fun nq => (x0 nq).1
  have y10 := fun nq => (x0 nq).2.1
  have y11 := fun nq => (x0 nq).2.2.1
  have y12 := fun nq => (x0 nq).2.2.2.1
  have y13 := fun nq => (x0 nq).2.2.2.2.1
  have y20 := fun nq => (x0 nq).2.2.2.2.2
  simp only [List.getElem_toArray, List.getElem_cons_zero, List.getElem_cons_succ] at y0 y10 y11 y12 y13 y20
  have HX := Lib.hid hX
  have HST := Lib.hid (fun (m' : Mem) (V' : World) (h : Evo rb m m' W V') => hg.stay h)
  have hWT := Lib.hid hwt
  have HOK := Lib.hid hok
  have hn' : s.left - 1 < n := by omega
  have HLT := Lib.hid (show s.out.length + (s.left - 1) < fuel by omega)
  obtain ⟨out, hout⟩ : ∃ out, bodyP inp (ev inp n) (.mk 1 n0 ks cs) e { s with left := s.left - 1 } = out := ⟨_, rfl⟩
  rw [hout]
  have HO := Lib.hid hout
  unfold frameW at r1 r5 f5 b0 y0 y10 y11 y12 y13 y20 HX
  clear hb hg hg3 hT hin he hr hX x0 hst hok hwt hn h0 hle hbn hout
  go_enter Tryd.func26, Tryd.ntmps26
  go_wp2_with fail
  go_quiet (fail)
  go_wp2_with fail
  obtain ⟨gX, eX, tX⟩ := HX.out nq
  have z0 := y0 nq
  have z10 := y10 nq
  have z11 := y11 nq
  have z12 := y12 nq
  have z13 := y13 nq
  have z20 := y20 nq
  clear y0 y10 y11 y12 y13 y20 r1 r5 f5 b0 HX
  generalize (((((W.alloc (.cells #[.pointer (some ⟨rb, 0, none⟩)] 49)).alloc (.cells #[.int .i64 1, .int .i64 n0, .slice Ak ks.length ck, .slice Ac cs.length cc] 26)).alloc (.cells #[.pointer pk] 83)).drewN nq).setCell ⟨rb, 5, none⟩ (.int .i64 (st + 1))) = V at *
  refine (find_any tX.env n0).mono ?_
  rintro en w' (⟨v, g, hl, rfl, hv, rfl⟩ | ⟨hl, rfl, rfl⟩)
  · obtain ⟨T, x, rfl⟩ := hv.shape
    have HP := Lib.hid (EvPost.val eX gX hv)
    have HO2 := Lib.hid (HO.out.symm.trans (show _ = ((.val v, { s with left := s.left - 1 }) : Out) from by simp [bodyP, Core.k, Core.n, hl]))
    clear hl hv gX eX tX
    go_wp2_with fail
    go_ret
    rw [HO2.out]; exact HP.out
  · have HP := Lib.hid (EvPost.stuck eX gX (thrown_one _ _))
    have HO2 := Lib.hid (HO.out.symm.trans (show _ = ((.stuck, { s with left := s.left - 1 }) : Out) from by simp [bodyP, Core.k, Core.n, hl]))
    clear hl gX eX tX
    go_wp2_with (go_at_call 40; refine (stuck_any _).mono ?_; rintro e w' ⟨rfl, rfl⟩)
    refine ⟨rfl, ?_⟩
    rw [HO2.out]; exact HP.out

set_option maxRecDepth 100000 in
set_option maxHeartbeats 4000000 in
theorem term_int {rb B : Nat} {inp : List Int} {fuel n : Nat} (hok : TermOk rb B inp fuel n) {s : St} {m : Mem} {W : World} (hg : Good rb B inp fuel s m W) {t : Core} {v : Array Value} (hin : CoreIn B W t v) (hwt : WT t) {e : PEnv} {ge : Value} (he : EnvIn rb m W e ge) (hn : s.left < n + 1) (h0 : 0 < s.left) (hk : t.k = 2) :
    Calls Tryd.prog 26 #[.pointer (some ⟨rb, 0, none⟩), .agg v, ge] W (EvPost rb B inp fuel m W (bodyP inp (ev inp n) t e { s with left := s.left - 1 })) := by
  obtain ⟨hb, hg3, hT⟩ := frame_at hg hin he
  have hrbl := hg.mutLt (k := rb) (.inl rfl)
  obtain ⟨k0, n0, ks, cs, Ak, ck, Ac, cc, b, o, G0, G1, G2, G3, rfl, rfl, hks, hck, hcc, hK⟩ := hin.open_
  simp only [Core.k] at hk
  subst hk
  obtain ⟨pk, rfl⟩ := he.shape
  obtain ⟨Ai, ci, hr, _⟩ := hg3.run
  have hfu := hg.fuelB
  have hle := hg.left
  have hbn := hg.bnd
  obtain ⟨st, hst⟩ : ∃ st : Int, st = (fuel : Int) - s.left := ⟨_, rfl⟩
  have hst0 : 0 ≤ st := by omega
  have hst1 : st < (fuel : Int) := by omega
  have hst2 : st ≤ 1000000 := by omega
  have r1 : (frameW W rb #[.int .i64 2, .int .i64 n0, .slice Ak ks.length ck, .slice Ac cs.length cc] (.pointer pk)).cell? ⟨rb, 1, none⟩ = some (.int .i64 fuel) := by simp [World.cell?, hr]
  have r5 : (frameW W rb #[.int .i64 2, .int .i64 n0, .slice Ak ks.length ck, .slice Ac cs.length cc] (.pointer pk)).cell? ⟨rb, 5, none⟩ = some (.int .i64 st) := by simp [World.cell?, hr, hst]
  have f5 : (frameW W rb #[.int .i64 2, .int .i64 n0, .slice Ak ks.length ck, .slice Ac cs.length cc] (.pointer pk)).frozen? ⟨rb, 5, none⟩ = false := by simp [World.frozen?, hr]
  have b0 := at_cell0 hT.r (i := 0) rfl
  simp only [List.getElem_toArray, List.getElem_cons_zero] at b0
  have hX : ∀ nq : Nat, Good rb B inp fuel { s with left := s.left - 1 } m (((frameW W rb #[.int .i64 2, .int .i64 n0, .slice Ak ks.length ck, .slice Ac cs.length cc] (.pointer pk)).drewN nq).setCell ⟨rb, 5, none⟩ (.int .i64 (st + 1))) ∧
      Evo rb m m W (((frameW W rb #[.int .i64 2, .int .i64 n0, .slice Ak ks.length ck, .slice Ac cs.length cc] (.pointer pk)).drewN nq).setCell ⟨rb, 5, none⟩ (.int .i64 (st + 1))) ∧
      TermAt rb B m (((frameW W rb #[.int .i64 2, .int .i64 n0, .slice Ak ks.length ck, .slice Ac cs.length cc] (.pointer pk)).drewN nq).setCell ⟨rb, 5, none⟩ (.int .i64 (st + 1))) (.mk 2 n0 ks cs) #[.int .i64 2, .int .i64 n0, .slice Ak ks.length ck, .slice Ac cs.length cc] e (.pointer pk) W.heap.size := by
    intro nq
    have hkd : Evo rb m m (frameW W rb #[.int .i64 2, .int .i64 n0, .slice Ak ks.length ck, .slice Ac cs.length cc] (.pointer pk)) ((frameW W rb #[.int .i64 2, .int .i64 n0, .slice Ak ks.length ck, .slice Ac cs.length cc] (.pointer pk)).drewN nq) := Evo.below (below_drewN (Below.refl _ _) _)
    obtain ⟨q1, q2⟩ := (hg3.below (below_drewN (Below.refl _ _) nq)).step h0
    rw [← hst] at q1 q2
    exact ⟨q1, ((Evo.below hb).trans hkd).trans q2, hT.evo hg3 (hkd.trans q2)⟩
  have x0 := fun nq => (fun (hx : TermAt rb B m (((frameW W rb #[.int .i64 2, .int .i64 n0, .slice Ak ks.length ck, .slice Ac cs.length cc] (.pointer pk)).drewN nq).setCell ⟨rb, 5, none⟩ (.int .i64 (st + 1))) (.mk 2 n0 ks cs) #[.int .i64 2, .int .i64 n0, .slice Ak ks.length ck, .slice Ac cs.length cc] e (.pointer pk) W.heap.size) =>
    (show _ ∧ _ ∧ _ ∧ _ ∧ _ ∧ _ from ⟨at_cell0 hx.r (i := 0) rfl, at_cell0 hx.c (i := 0) rfl, at_cell0 hx.c (i := 1) rfl, at_cell0 hx.c (i := 2) rfl, at_cell0 hx.c (i := 3) rfl, at_cell0 hx.k (i := 0) rfl⟩)) (hX nq).2.2
  have y0 := fun nq => (x0 nq).1
  have y10 := fun nq => (x0 nq).2.1
  have y11 := fun nq => (x0 nq).2.2.1
  have y12 := fun nq => (x0 nq).2.2.2.1
  have y13 := fun nq => (x0 nq).2.2.2.2.1
  have y20 := fun nq => (x0 nq).2.2.2.2.2
  simp only [List.getElem_toArray, List.getElem_cons_zero, List.getElem_cons_succ] at y0 y10 y11 y12 y13 y20
  have HX := Lib.hid hX
  have HST := Lib.hid (fun (m' : Mem) (V' : World) (h : Evo rb m m' W V') => hg.stay h)
  have hWT := Lib.hid hwt
  have HOK := Lib.hid hok
  have hn' : s.left - 1 < n := by omega
  have HLT := Lib.hid (show s.out.length + (s.left - 1) < fuel by omega)
  obtain ⟨out, hout⟩ : ∃ out, bodyP inp (ev inp n) (.mk 2 n0 ks cs) e { s with left := s.left - 1 } = out := ⟨_, rfl⟩
  rw [hout]
  have HO := Lib.hid hout
  unfold frameW at r1 r5 f5 b0 y0 y10 y11 y12 y13 y20 HX
  clear hb hg hg3 hT hin he hr hX x0 hst hok hwt hn h0 hle hbn hout
  go_enter Tryd.func26, Tryd.ntmps26
  go_wp2_with fail
  go_quiet (fail)
  go_wp2_with fail
  go_ret
  obtain ⟨gX, eX, tX⟩ := HX.out nq
  rw [HO.out.symm.trans (show _ = ((.val (.int n0), { s with left := s.left - 1 }) : Out) from by simp [bodyP, Core.k, Core.n])]
  exact EvPost.val eX gX (.int n0)

set_option maxRecDepth 100000 in
set_option maxHeartbeats 4000000 in
theorem term_fn {rb B : Nat} {inp : List Int} {fuel n : Nat} (hok : TermOk rb B inp fuel n) {s : St} {m : Mem} {W : World} (hg : Good rb B inp fuel s m W) {t : Core} {v : Array Value} (hin : CoreIn B W t v) (hwt : WT t) {e : PEnv} {ge : Value} (he : EnvIn rb m W e ge) (hn : s.left < n + 1) (h0 : 0 < s.left) (hk : t.k = 3) :
    Calls Tryd.prog 26 #[.pointer (some ⟨rb, 0, none⟩), .agg v, ge] W (EvPost rb B inp fuel m W (bodyP inp (ev inp n) t e { s with left := s.left - 1 })) := by
  obtain ⟨hb, hg3, hT⟩ := frame_at hg hin he
  have hrbl := hg.mutLt (k := rb) (.inl rfl)
  obtain ⟨k0, n0, ks, cs, Ak, ck, Ac, cc, b, o, G0, G1, G2, G3, rfl, rfl, hks, hck, hcc, hK⟩ := hin.open_
  simp only [Core.k] at hk
  subst hk
  obtain ⟨pk, rfl⟩ := he.shape
  obtain ⟨Ai, ci, hr, _⟩ := hg3.run
  have hfu := hg.fuelB
  have hle := hg.left
  have hbn := hg.bnd
  obtain ⟨st, hst⟩ : ∃ st : Int, st = (fuel : Int) - s.left := ⟨_, rfl⟩
  have hst0 : 0 ≤ st := by omega
  have hst1 : st < (fuel : Int) := by omega
  have hst2 : st ≤ 1000000 := by omega
  have r1 : (frameW W rb #[.int .i64 3, .int .i64 n0, .slice Ak ks.length ck, .slice Ac cs.length cc] (.pointer pk)).cell? ⟨rb, 1, none⟩ = some (.int .i64 fuel) := by simp [World.cell?, hr]
  have r5 : (frameW W rb #[.int .i64 3, .int .i64 n0, .slice Ak ks.length ck, .slice Ac cs.length cc] (.pointer pk)).cell? ⟨rb, 5, none⟩ = some (.int .i64 st) := by simp [World.cell?, hr, hst]
  have f5 : (frameW W rb #[.int .i64 3, .int .i64 n0, .slice Ak ks.length ck, .slice Ac cs.length cc] (.pointer pk)).frozen? ⟨rb, 5, none⟩ = false := by simp [World.frozen?, hr]
  have b0 := at_cell0 hT.r (i := 0) rfl
  simp only [List.getElem_toArray, List.getElem_cons_zero] at b0
  have hX : ∀ nq : Nat, Good rb B inp fuel { s with left := s.left - 1 } m (((frameW W rb #[.int .i64 3, .int .i64 n0, .slice Ak ks.length ck, .slice Ac cs.length cc] (.pointer pk)).drewN nq).setCell ⟨rb, 5, none⟩ (.int .i64 (st + 1))) ∧
      Evo rb m m W (((frameW W rb #[.int .i64 3, .int .i64 n0, .slice Ak ks.length ck, .slice Ac cs.length cc] (.pointer pk)).drewN nq).setCell ⟨rb, 5, none⟩ (.int .i64 (st + 1))) ∧
      TermAt rb B m (((frameW W rb #[.int .i64 3, .int .i64 n0, .slice Ak ks.length ck, .slice Ac cs.length cc] (.pointer pk)).drewN nq).setCell ⟨rb, 5, none⟩ (.int .i64 (st + 1))) (.mk 3 n0 ks cs) #[.int .i64 3, .int .i64 n0, .slice Ak ks.length ck, .slice Ac cs.length cc] e (.pointer pk) W.heap.size := by
    intro nq
    have hkd : Evo rb m m (frameW W rb #[.int .i64 3, .int .i64 n0, .slice Ak ks.length ck, .slice Ac cs.length cc] (.pointer pk)) ((frameW W rb #[.int .i64 3, .int .i64 n0, .slice Ak ks.length ck, .slice Ac cs.length cc] (.pointer pk)).drewN nq) := Evo.below (below_drewN (Below.refl _ _) _)
    obtain ⟨q1, q2⟩ := (hg3.below (below_drewN (Below.refl _ _) nq)).step h0
    rw [← hst] at q1 q2
    exact ⟨q1, ((Evo.below hb).trans hkd).trans q2, hT.evo hg3 (hkd.trans q2)⟩
  have x0 := fun nq => (fun (hx : TermAt rb B m (((frameW W rb #[.int .i64 3, .int .i64 n0, .slice Ak ks.length ck, .slice Ac cs.length cc] (.pointer pk)).drewN nq).setCell ⟨rb, 5, none⟩ (.int .i64 (st + 1))) (.mk 3 n0 ks cs) #[.int .i64 3, .int .i64 n0, .slice Ak ks.length ck, .slice Ac cs.length cc] e (.pointer pk) W.heap.size) =>
    (show _ ∧ _ ∧ _ ∧ _ ∧ _ ∧ _ from ⟨at_cell0 hx.r (i := 0) rfl, at_cell0 hx.c (i := 0) rfl, at_cell0 hx.c (i := 1) rfl, at_cell0 hx.c (i := 2) rfl, at_cell0 hx.c (i := 3) rfl, at_cell0 hx.k (i := 0) rfl⟩)) (hX nq).2.2
  have y0 := fun nq => (x0 nq).1
  have y10 := fun nq => (x0 nq).2.1
  have y11 := fun nq => (x0 nq).2.2.1
  have y12 := fun nq => (x0 nq).2.2.2.1
  have y13 := fun nq => (x0 nq).2.2.2.2.1
  have y20 := fun nq => (x0 nq).2.2.2.2.2
  simp only [List.getElem_toArray, List.getElem_cons_zero, List.getElem_cons_succ] at y0 y10 y11 y12 y13 y20
  have HX := Lib.hid hX
  have HST := Lib.hid (fun (m' : Mem) (V' : World) (h : Evo rb m m' W V') => hg.stay h)
  have hWT := Lib.hid hwt
  have HOK := Lib.hid hok
  have hn' : s.left - 1 < n := by omega
  have HLT := Lib.hid (show s.out.length + (s.left - 1) < fuel by omega)
  obtain ⟨out, hout⟩ : ∃ out, bodyP inp (ev inp n) (.mk 3 n0 ks cs) e { s with left := s.left - 1 } = out := ⟨_, rfl⟩
  rw [hout]
  have HO := Lib.hid hout
  unfold frameW at r1 r5 f5 b0 y0 y10 y11 y12 y13 y20 HX
  clear hb hg hg3 hT hin he hr hX x0 hst hok hwt hn h0 hle hbn hout
  have hcl : cs.length = 1 := by
    have h1 := hWT.out.node.2.2.2.1
    simp [Core.k, Core.ks, Core.cs, Core.n, cntB, kidsL] at h1
    omega
  obtain ⟨rfl, hbB⟩ := hK.hA (by omega)
  obtain ⟨g0, g1, A2, n2, d2, A3, n3, d3, hsh⟩ := (hK.hsub 0 (by omega)).shape
  have HSH := Lib.hid hsh
  clear hsh
  have HK := Lib.hid hK
  have hp0 : 0 < cs.length := by omega
  have HCL := Lib.hid hcl
  clear hK hcl
  go_enter Tryd.func26, Tryd.ntmps26
  go_wp2_with fail
  go_quiet (fail)
  go_wp2_with fail
  obtain ⟨gX, eX, tX⟩ := HX.out nq
  have z0 := y0 nq
  have z10 := y10 nq
  have z11 := y11 nq
  have z12 := y12 nq
  have z13 := y13 nq
  have z20 := y20 nq
  clear y0 y10 y11 y12 y13 y20 r1 r5 f5 b0 HX
  generalize (((((W.alloc (.cells #[.pointer (some ⟨rb, 0, none⟩)] 49)).alloc (.cells #[.int .i64 3, .int .i64 n0, .slice Ak ks.length ck, .slice (some ⟨b, o, none⟩) cs.length cc] 26)).alloc (.cells #[.pointer pk] 83)).drewN nq).setCell ⟨rb, 5, none⟩ (.int .i64 (st + 1))) = V at *
  have HS := Lib.hid (fun (V' : World) (m' : Mem) (hE : Evo rb m m' V V') => (show V'.cell? ⟨W.heap.size + 1, 1, none⟩ = some (.int .i64 n0) ∧ V'.cell? ⟨W.heap.size + 1, 3, none⟩ = some (.slice (some ⟨b, o, none⟩) cs.length cc) ∧ V'.cell? ⟨W.heap.size + 1 + 1, 0, none⟩ = some (.pointer pk) ∧ V'.cell? ⟨b, o, none⟩ = some (.int .i64 g0) ∧ V'.cell? ⟨b, o + 1, none⟩ = some (.int .i64 g1) ∧ V'.cell? ⟨b, o + 2, none⟩ = some (.slice A2 n2 d2) ∧ V'.cell? ⟨b, o + 3, none⟩ = some (.slice A3 n3 d3) from by
    have hst := HST.out _ _ (eX.trans hE)
    have hsh := HSH.out
    simp only [Array.mk.injEq, List.cons.injEq, and_true] at hsh
    obtain ⟨s0, s1, s2, s3⟩ := hsh
    refine ⟨at_cell0 (tX.c.evo hE) rfl, at_cell0 (tX.c.evo hE) rfl, at_cell0 (tX.k.evo hE) rfl, ?_, ?_, ?_, ?_⟩
    · have := hst _ _ _ hbB (HK.out.c0 0 (by omega)); rw [s0] at this; simpa [Nat.add_assoc] using this
    · have := hst _ _ _ hbB (HK.out.c1 0 (by omega)); rw [s1] at this; simpa [Nat.add_assoc] using this
    · have := hst _ _ _ hbB (HK.out.c2 0 (by omega)); rw [s2] at this; simpa [Nat.add_assoc] using this
    · have := hst _ _ _ hbB (HK.out.c3 0 (by omega)); rw [s3] at this; simpa [Nat.add_assoc] using this))
  have hd : Evo rb m m V V.drew := (Evo.refl _ _ _).drew
  have HP := Lib.hid (show EvPost rb B inp fuel m W out (.returned (.iface 88 (.pointer (some ⟨V.heap.size, 0, none⟩)))) (V.drew.alloc (.cells #[.int .i64 n0, .int .i64 g0, .int .i64 g1, .slice A2 n2 d2, .slice A3 n3 d3, .pointer pk] 90)) from by
    have hc : CoreIn B V.drew cs[0] #[.int .i64 g0, .int .i64 g1, .slice A2 n2 d2, .slice A3 n3 d3] := by
      rw [← HSH.out]; exact (HK.out.hsub 0 hp0).stay (HST.out _ _ (eX.trans hd))
    obtain ⟨q1, q2, q3⟩ := (gX.below (Below.refl _ _).drew).addFn (p := n0) hc (hWT.out.kid (List.getElem_mem hp0)) (tX.env.evo hd)
    rw [HO.out.symm.trans (show _ = ((.val (.fn s.fns.length), { s with left := s.left - 1, fns := s.fns ++ [⟨n0, cs[0], e⟩] }) : Out) from by simp [bodyP, Core.k, Core.n, Core.cs, hp0])]
    exact EvPost.val ((eX.trans hd).trans q2) q1 q3)
  clear gX eX tX hd hbB
  go_region_held2 (fun V' => V'.cell? ⟨W.heap.size + 1, 1, none⟩ = some (.int .i64 n0) ∧ V'.cell? ⟨W.heap.size + 1, 3, none⟩ = some (.slice (some ⟨b, o, none⟩) cs.length cc) ∧ V'.cell? ⟨W.heap.size + 1 + 1, 0, none⟩ = some (.pointer pk) ∧ V'.cell? ⟨b, o, none⟩ = some (.int .i64 g0) ∧ V'.cell? ⟨b, o + 1, none⟩ = some (.int .i64 g1) ∧ V'.cell? ⟨b, o + 2, none⟩ = some (.slice A2 n2 d2) ∧ V'.cell? ⟨b, o + 3, none⟩ = some (.slice A3 n3 d3))
    (first | exact HS.out _ _ (Evo.refl _ _ _).drew | exact HS.out _ _ ((Evo.refl _ _ _).drew.trans (Evo.alloc _ _ _ _))) (fail)
  all_goals (go_wp2_with fail; go_ret; exact HP.out)
end Go.Proofs.YtnolhcdfknjncaaDoor

/-
  The program's evaluator: calls and lets.
-/
set_option linter.unusedVariables false
set_option linter.unusedSimpArgs false
namespace Go.Proofs.YtnolhcdfknjncaaDoor
open Go.RowKit

/-- how a Kid's evaluation ends: with a value, or as the whole does -/
def KidEnds (rb B : Nat) (inp : List Int) (fuel : Nat) (o : Out) (m' : Mem) (V' : World) (m : Mem) (W : World) (out : Out) (en : Ending) (V : World) : Prop :=
  (∃ v s' m2 T x, o = (.val v, s') ∧ en = .returned (.iface T x) ∧ Evo rb m' m2 V' V ∧ Good rb B inp fuel s' m2 V ∧ RepV rb m2 V v (.iface T x)) ∨ (∃ ch, en = .panicked ch ∧ (∃ m2, Evo rb m' m2 V' V) ∧ EvPost rb B inp fuel m W out (.panicked ch) V)
theorem kidEnds {rb B : Nat} {inp : List Int} {fuel : Nat} {o : Out} {m' : Mem} {V' : World} {m : Mem} {W : World} {out : Out} {en : Ending} {V : World} (h : EvPost rb B inp fuel m' V' o en V) (hE : Evo rb m m' W V') {F : PV → St → Out} (hout : out = Out.andThen o F) : KidEnds rb B inp fuel o m' V' m W out en V := by
  obtain ⟨mE, hEV⟩ := h.evo
  rcases h.inv with ⟨v, s', m2, T, x, h1, h2, h3, h4, h5⟩ | ⟨ch, h1, _, _, h4⟩
  · exact .inl ⟨v, s', m2, T, x, h1, h2, h3, h4, h5⟩
  · exact .inr ⟨ch, h1, ⟨mE, hEV⟩, hout ▸ (h4 F).from_ hE⟩
/-- how the last call ends -/
def LastEnds (rb B : Nat) (inp : List Int) (fuel : Nat) (m' : Mem) (V' : World) (m : Mem) (W : World) (out : Out) (en : Ending) (V : World) : Prop :=
  ((∃ g, en = .returned g) ∨ (∃ ch, en = .panicked ch)) ∧ (∃ m2, Evo rb m' m2 V' V) ∧ EvPost rb B inp fuel m W out en V
theorem lastEnds {rb B : Nat} {inp : List Int} {fuel : Nat} {m' : Mem} {V' : World} {m : Mem} {W : World} {out : Out} {en : Ending} {V : World} (h : EvPost rb B inp fuel m' V' out en V) (hE : Evo rb m m' W V') : LastEnds rb B inp fuel m' V' m W out en V := by
  obtain ⟨mE, hEV⟩ := h.evo
  refine ⟨?_, ⟨mE, hEV⟩, h.from_ hE⟩
  rcases h.ends with ⟨g, h1, _⟩ | ⟨ch, h1, _⟩
  · exact .inl ⟨g, h1⟩
  · exact .inr ⟨ch, h1⟩

set_option maxRecDepth 100000 in
set_option maxHeartbeats 4000000 in
theorem term_app {rb B : Nat} {inp : List Int} {fuel n : Nat} (hok : TermOk rb B inp fuel n) {s : St} {m : Mem} {W : World} (hg : Good rb B inp fuel s m W) {t : Core} {v : Array Value} (hin : CoreIn B W t v) (hwt : WT t) {e : PEnv} {ge : Value} (he : EnvIn rb m W e ge) (hn : s.left < n + 1) (h0 : 0 < s.left) (hk : t.k = 4) :
    Calls Tryd.prog 26 #[.pointer (some ⟨rb, 0, none⟩), .agg v, ge] W (EvPost rb B inp fuel m W (bodyP inp (ev inp n) t e { s with left := s.left - 1 })) := by
  obtain ⟨hb, hg3, hT⟩ := frame_at hg hin he
  have hrbl := hg.mutLt (k := rb) (.inl rfl)
  obtain ⟨k0, n0, ks, cs, Ak, ck, Ac, cc, b, o, G0, G1, G2, G3, rfl, rfl, hks, hck, hcc, hK⟩ := hin.open_
  simp only [Core.k] at hk
  subst hk
  obtain ⟨pk, rfl⟩ := he.shape
  obtain ⟨Ai, ci, hr, _⟩ := hg3.run
  have hfu := hg.fuelB
  have hle := hg.left
  have hbn := hg.bnd
  obtain ⟨st, hst⟩ : ∃ st : Int, st = (fuel : Int) - s.left := ⟨_, rfl⟩
  have hst0 : 0 ≤ st := by omega
  have hst1 : st < (fuel : Int) := by omega
  have hst2 : st ≤ 1000000 := by omega
  have r1 : (frameW W rb #[.int .i64 4, .int .i64 n0, .slice Ak ks.length ck, .slice Ac cs.length cc] (.pointer pk)).cell? ⟨rb, 1, none⟩ = some (.int .i64 fuel) := by simp [World.cell?, hr]
  have r5 : (frameW W rb #[.int .i64 4, .int .i64 n0, .slice Ak ks.length ck, .slice Ac cs.length cc] (.pointer pk)).cell? ⟨rb, 5, none⟩ = some (.int .i64 st) := by simp [World.cell?, hr, hst]
  have f5 : (frameW W rb #[.int .i64 4, .int .i64 n0, .slice Ak ks.length ck, .slice Ac cs.length cc] (.pointer pk)).frozen? ⟨rb, 5, none⟩ = false := by simp [World.frozen?, hr]
  have b0 := at_cell0 hT.r (i := 0) rfl
  simp only [List.getElem_toArray, List.getElem_cons_zero] at b0
  have hX : ∀ nq : Nat, Good rb B inp fuel { s with left := s.left - 1 } m (((frameW W rb #[.int .i64 4, .int .i64 n0, .slice Ak ks.length ck, .slice Ac cs.length cc] (.pointer pk)).drewN nq).setCell ⟨rb, 5, none⟩ (.int .i64 (st + 1))) ∧
      Evo rb m m W (((frameW W rb #[.int .i64 4, .int .i64 n0, .slice Ak ks.length ck, .slice Ac cs.length cc] (.pointer pk)).drewN nq).setCell ⟨rb, 5, none⟩ (.int .i64 (st + 1))) ∧
      TermAt rb B m (((frameW W rb #[.int .i64 4, .int .i64 n0, .slice Ak ks.length ck, .slice Ac cs.length cc] (.pointer pk)).drewN nq).setCell ⟨rb, 5, none⟩ (.int .i64 (st + 1))) (.mk 4 n0 ks cs) #[.int .i64 4, .int .i64 n0, .slice Ak ks.length ck, .slice Ac cs.length cc] e (.pointer pk) W.heap.size := by
    intro nq
    have hkd : Evo rb m m (frameW W rb #[.int .i64 4, .int .i64 n0, .slice Ak ks.length ck, .slice Ac cs.length cc] (.pointer pk)) ((frameW W rb #[.int .i64 4, .int .i64 n0, .slice Ak ks.length ck, .slice Ac cs.length cc] (.pointer pk)).drewN nq) := Evo.below (below_drewN (Below.refl _ _) _)
    obtain ⟨q1, q2⟩ := (hg3.below (below_drewN (Below.refl _ _) nq)).step h0
    rw [← hst] at q1 q2
    exact ⟨q1, ((Evo.below hb).trans hkd).trans q2, hT.evo hg3 (hkd.trans q2)⟩
  have x0 := fun nq => (fun (hx : TermAt rb B m (((frameW W rb #[.int .i64 4, .int .i64 n0, .slice Ak ks.length ck, .slice Ac cs.length cc] (.pointer pk)).drewN nq).setCell ⟨rb, 5, none⟩ (.int .i64 (st + 1))) (.mk 4 n0 ks cs) #[.int .i64 4, .int .i64 n0, .slice Ak ks.length ck, .slice Ac cs.length cc] e (.pointer pk) W.heap.size) =>
    (show _ ∧ _ ∧ _ ∧ _ ∧ _ ∧ _ from ⟨at_cell0 hx.r (i := 0) rfl, at_cell0 hx.c (i := 0) rfl, at_cell0 hx.c (i := 1) rfl, at_cell0 hx.c (i := 2) rfl, at_cell0 hx.c (i := 3) rfl, at_cell0 hx.k (i := 0) rfl⟩)) (hX nq).2.2
  have y0 := fun nq => (x0 nq).1
  have y10 := fun nq => (x0 nq).2.1
  have y11 := fun nq => (x0 nq).2.2.1
  have y12 := fun nq => (x0 nq).2.2.2.1
  have y13 := fun nq => (x0 nq).2.2.2.2.1
  have y20 := fun nq => (x0 nq).2.2.2.2.2
  simp only [List.getElem_toArray, List.getElem_cons_zero, List.getElem_cons_succ] at y0 y10 y11 y12 y13 y20
  have HX := Lib.hid hX
  have HST := Lib.hid (fun (m' : Mem) (V' : World) (h : Evo rb m m' W V') => hg.stay h)
  have hWT := Lib.hid hwt
  have HOK := Lib.hid hok
  have hn' : s.left - 1 < n := by omega
  have HLT := Lib.hid (show s.out.length + (s.left - 1) < fuel by omega)
  obtain ⟨out, hout⟩ : ∃ out, bodyP inp (ev inp n) (.mk 4 n0 ks cs) e { s with left := s.left - 1 } = out := ⟨_, rfl⟩
  rw [hout]
  have HO := Lib.hid hout
  unfold frameW at r1 r5 f5 b0 y0 y10 y11 y12 y13 y20 HX
  clear hb hg hg3 hT hin he hr hX x0 hst hok hwt hn h0 hle hbn hout
  have hcl : cs.length = 2 := by
    have h1 := hWT.out.node.2.2.2.1
    simp [Core.k, Core.ks, Core.cs, Core.n, cntB, kidsL] at h1
    omega
  have hp0 : 0 < cs.length := by omega
  have hpi0 : (0 : Int) < (cs.length : Int) := by omega
  have hp1 : 1 < cs.length := by omega
  have hpi1 : (1 : Int) < (cs.length : Int) := by omega
  clear hcl
  go_enter Tryd.func26, Tryd.ntmps26
  go_wp2_with fail
  go_quiet (fail)
  go_wp2_with fail
  obtain ⟨gX, eX, tX⟩ := HX.out nq
  have z0 := y0 nq
  have z10 := y10 nq
  have z11 := y11 nq
  have z12 := y12 nq
  have z13 := y13 nq
  have z20 := y20 nq
  clear y0 y10 y11 y12 y13 y20 r1 r5 f5 b0 HX
  generalize (((((W.alloc (.cells #[.pointer (some ⟨rb, 0, none⟩)] 49)).alloc (.cells #[.int .i64 4, .int .i64 n0, .slice Ak ks.length ck, .slice Ac cs.length cc] 26)).alloc (.cells #[.pointer pk] 83)).drewN nq).setCell ⟨rb, 5, none⟩ (.int .i64 (st + 1))) = V at *
  have HKid := Lib.hid (fun (i : Nat) (hi : i < cs.length) (s' : St) (m' : Mem) (V' : World) (hE : Evo rb m m' V V') (hg' : Good rb B inp fuel s' m' V') (hn1 : s'.left < n) => (show Calls Tryd.prog 38 #[.int .i64 (i : Int), .pointer (some ⟨W.heap.size, 0, none⟩), .pointer (some ⟨W.heap.size + 1, 0, none⟩), .pointer (some ⟨W.heap.size + 1 + 1, 0, none⟩)] V' (EvPost rb B inp fuel m' V' (ev inp n cs[i] e s')) from
     kid_term HOK.out hg' (tX.evo gX hE) hWT.out hi hn1))
  have hd : Evo rb m m V V.drew := (Evo.refl _ _ _).drew
  have hO1 := HO.out.symm.trans (show _ = Out.andThen (ev inp n cs[0] e { s with left := s.left - 1 }) (fun f s => Out.andThen (ev inp n cs[1] e s) fun a s => callP (ev inp n) f a s) from by simp [bodyP, Core.k, Core.n, Core.cs, hp0, hp1])
  have C0 := Lib.hid ((HKid.out 0 hp0 _ m V (Evo.refl _ _ _) gX hn').mono fun en V1 h => kidEnds h eX hO1)
  have HO1 := Lib.hid hO1
  clear hO1
  have hle := (ev_le inp n cs[0] e { s with left := s.left - 1 }).left
  have HS := Lib.hid (fun (V' : World) (m' : Mem) (hE : Evo rb m m' V V') => (show V'.cell? ⟨W.heap.size, 0, none⟩ = some (.pointer (some ⟨rb, 0, none⟩)) from at_cell0 (tX.r.evo hE) rfl))
  refine C0.out.mono ?_
  rintro en V1 (⟨f, s2, m2, Tf, xf, hO, rfl, hk1, hg1, hf⟩ | ⟨ch, rfl, _, hP⟩)
  rotate_left
  · exact ⟨rfl, hP⟩
  rw [hO] at hle
  have hO2 := HO1.out
  rw [hO] at hO2
  replace hO2 : out = Out.andThen (ev inp n cs[1] e s2) (fun a s => callP (ev inp n) f a s) := hO2
  have hd1 : Evo rb m2 m2 V1 V1.drew := (Evo.refl _ _ _).drew
  have hE1 : Evo rb m m2 V V1.drew := hk1.trans hd1
  have C1 := Lib.hid (show Calls Tryd.prog 38 #[.int .i64 1, .pointer (some ⟨W.heap.size, 0, none⟩), .pointer (some ⟨W.heap.size + 1, 0, none⟩), .pointer (some ⟨W.heap.size + 1 + 1, 0, none⟩)] V1.drew (KidEnds rb B inp fuel (ev inp n cs[1] e s2) m2 V1.drew m W out) from (HKid.out 1 hp1 s2 m2 V1.drew hE1 (hg1.below (Below.refl _ _).drew) (Nat.lt_of_le_of_lt hle hn')).mono fun en V1 h => kidEnds h (eX.trans hE1) hO2)
  have hle2 := (ev_le inp n cs[1] e s2).left
  have CC := Lib.hid (fun (a : PV) (s3 : St) (m3 : Mem) (V3 : World) (Ta : TypeId) (xa : Value) (ho : ev inp n cs[1] e s2 = (.val a, s3)) (hk : Evo rb m2 m3 V1.drew V3) (hg3 : Good rb B inp fuel s3 m3 V3) (ha : RepV rb m3 V3 a (.iface Ta xa)) =>
    (call_any HOK.out f a s3 m3 V3 _ _ ((hf.evo hd1).evo hk) ha hg3 (by rw [ho] at hle2; exact Nat.lt_of_le_of_lt (Nat.le_trans hle2 hle) hn')).mono fun en V4 h => (show LastEnds rb B inp fuel m3 V3 m W out en V4 from by
      rw [ho] at hO2
      have he : out = callP (ev inp n) f a s3 := hO2
      rw [he]
      exact lastEnds h ((eX.trans hE1).trans hk)))
  have hE1 := Lib.hid hE1
  clear hle hle2 hO hO2 hf hg1 gX eX tX hd hd1 C0 HKid hk1
  go_wp2_with fail
  go_region_held2 (fun V' => V'.cell? ⟨W.heap.size, 0, none⟩ = some (.pointer (some ⟨rb, 0, none⟩)))
    (first | exact HS.out _ _ hE1.out | exact HS.out _ _ (hE1.out.trans hk3) | exact HS.out _ _ ((hE1.out.trans hk3).trans hk4))
    ((first
      | (go_at_call 38; refine C1.out.mono ?_; rintro en w' (⟨a, s3, m3, Ta, xa, hO1, rfl, hk3, hg3, ha⟩ | ⟨ch, rfl, _, hP⟩); rotate_left; exact ⟨rfl, hP⟩)
      | (go_at_call 41; refine (CC.out a s3 m3 _ Ta xa hO1 hk3 hg3 ha).mono ?_; rintro en w' ⟨⟨g, rfl⟩ | ⟨ch, rfl⟩, ⟨m4, hk4⟩, hP⟩; rotate_left; exact ⟨rfl, hP⟩)))
  all_goals (go_wp2_with fail; go_ret; exact hP)
end Go.Proofs.YtnolhcdfknjncaaDoor

/-
  The program's evaluator: lets, functions that know one another.
-/
set_option linter.unusedVariables false
set_option linter.unusedSimpArgs false
namespace Go.Proofs.YtnolhcdfknjncaaDoor
open Go.RowKit

set_option maxRecDepth 100000 in
set_option maxHeartbeats 4000000 in
theorem term_let {rb B : Nat} {inp : List Int} {fuel n : Nat} (hok : TermOk rb B inp fuel n) {s : St} {m : Mem} {W : World} (hg : Good rb B inp fuel s m W) {t : Core} {v : Array Value} (hin : CoreIn B W t v) (hwt : WT t) {e : PEnv} {ge : Value} (he : EnvIn rb m W e ge) (hn : s.left < n + 1) (h0 : 0 < s.left) (hk : t.k = 5) :
    Calls Tryd.prog 26 #[.pointer (some ⟨rb, 0, none⟩), .agg v, ge] W (EvPost rb B inp fuel m W (bodyP inp (ev inp n) t e { s with left := s.left - 1 })) := by
  obtain ⟨hb, hg3, hT⟩ := frame_at hg hin he
  have hrbl := hg.mutLt (k := rb) (.inl rfl)
  obtain ⟨k0, n0, ks, cs, Ak, ck, Ac, cc, b, o, G0, G1, G2, G3, rfl, rfl, hks, hck, hcc, hK⟩ := hin.open_
  simp only [Core.k] at hk
  subst hk
  obtain ⟨pk, rfl⟩ := he.shape
  obtain ⟨Ai, ci, hr, _⟩ := hg3.run
  have hfu := hg.fuelB
  have hle := hg.left
  have hbn := hg.bnd
  obtain ⟨st, hst⟩ : ∃ st : Int, st = (fuel : Int) - s.left := ⟨_, rfl⟩
  have hst0 : 0 ≤ st := by omega
  have hst1 : st < (fuel : Int) := by omega
  have hst2 : st ≤ 1000000 := by omega
  have r1 : (frameW W rb #[.int .i64 5, .int .i64 n0, .slice Ak ks.length ck, .slice Ac cs.length cc] (.pointer pk)).cell? ⟨rb, 1, none⟩ = some (.int .i64 fuel) := by simp [World.cell?, hr]
  have r5 : (frameW W rb #[.int .i64 5, .int .i64 n0, .slice Ak ks.length ck, .slice Ac cs.length cc] (.pointer pk)).cell? ⟨rb, 5, none⟩ = some (.int .i64 st) := by simp [World.cell?, hr, hst]
  have f5 : (frameW W rb #[.int .i64 5, .int .i64 n0, .slice Ak ks.length ck, .slice Ac cs.length cc] (.pointer pk)).frozen? ⟨rb, 5, none⟩ = false := by simp [World.frozen?, hr]
  have b0 := at_cell0 hT.r (i := 0) rfl
  simp only [List.getElem_toArray, List.getElem_cons_zero] at b0
  have hX : ∀ nq : Nat, Good rb B inp fuel { s with left := s.left - 1 } m (((frameW W rb #[.int .i64 5, .int .i64 n0, .slice Ak ks.length ck, .slice Ac cs.length cc] (.pointer pk)).drewN nq).setCell ⟨rb, 5, none⟩ (.int .i64 (st + 1))) ∧
      Evo rb m m W (((frameW W rb #[.int .i64 5, .int .i64 n0, .slice Ak ks.length ck, .slice Ac cs.length cc] (.pointer pk)).drewN nq).setCell ⟨rb, 5, none⟩ (.int .i64 (st + 1))) ∧
      TermAt rb B m (((frameW W rb #[.int .i64 5, .int .i64 n0, .slice Ak ks.length ck, .slice Ac cs.length cc] (.pointer pk)).drewN nq).setCell ⟨rb, 5, none⟩ (.int .i64 (st + 1))) (.mk 5 n0 ks cs) #[.int .i64 5, .int .i64 n0, .slice Ak ks.length ck, .slice Ac cs.length cc] e (.pointer pk) W.heap.size := by
    intro nq
    have hkd : Evo rb m m (frameW W rb #[.int .i64 5, .int .i64 n0, .slice Ak ks.length ck, .slice Ac cs.length cc] (.pointer pk)) ((frameW W rb #[.int .i64 5, .int .i64 n0, .slice Ak ks.length ck, .slice Ac cs.length cc] (.pointer pk)).drewN nq) := Evo.below (below_drewN (Below.refl _ _) _)
    obtain ⟨q1, q2⟩ := (hg3.below (below_drewN (Below.refl _ _) nq)).step h0
    rw [← hst] at q1 q2
    exact ⟨q1, ((Evo.below hb).trans hkd).trans q2, hT.evo hg3 (hkd.trans q2)⟩
  have x0 := fun nq => (fun (hx : TermAt rb B m (((frameW W rb #[.int .i64 5, .int .i64 n0, .slice Ak ks.length ck, .slice Ac cs.length cc] (.pointer pk)).drewN nq).setCell ⟨rb, 5, none⟩ (.int .i64 (st + 1))) (.mk 5 n0 ks cs) #[.int .i64 5, .int .i64 n0, .slice Ak ks.length ck, .slice Ac cs.length cc] e (.pointer pk) W.heap.size) =>
    (show _ ∧ _ ∧ _ ∧ _ ∧ _ ∧ _ from ⟨at_cell0 hx.r (i := 0) rfl, at_cell0 hx.c (i := 0) rfl, at_cell0 hx.c (i := 1) rfl, at_cell0 hx.c (i := 2) rfl, at_cell0 hx.c (i := 3) rfl, at_cell0 hx.k (i := 0) rfl⟩)) (hX nq).2.2
  have y0 := fun nq => (x0 nq).1
  have y10 := fun nq => (x0 nq).2.1
  have y11 := fun nq => (x0 nq).2.2.1
  have y12 := fun nq => (x0 nq).2.2.2.1
  have y13 := fun nq => (x0 nq).2.2.2.2.1
  have y20 := fun nq => (x0 nq).2.2.2.2.2
  simp only [List.getElem_toArray, List.getElem_cons_zero, List.getElem_cons_succ] at y0 y10 y11 y12 y13 y20
  have HX := Lib.hid hX
  have HST := Lib.hid (fun (m' : Mem) (V' : World) (h : Evo rb m m' W V') => hg.stay h)
  have hWT := Lib.hid hwt
  have HOK := Lib.hid hok
  have hn' : s.left - 1 < n := by omega
  have HLT := Lib.hid (show s.out.length + (s.left - 1) < fuel by omega)
  obtain ⟨out, hout⟩ : ∃ out, bodyP inp (ev inp n) (.mk 5 n0 ks cs) e { s with left := s.left - 1 } = out := ⟨_, rfl⟩
  rw [hout]
  have HO := Lib.hid hout
  unfold frameW at r1 r5 f5 b0 y0 y10 y11 y12 y13 y20 HX
  clear hb hg hg3 hT hin he hr hX x0 hst hok hwt hn h0 hle hbn hout
  have hcl : cs.length = 2 := by
    have h1 := hWT.out.node.2.2.2.1
    simp [Core.k, Core.ks, Core.cs, Core.n, cntB, kidsL] at h1
    omega
  have hp0 : 0 < cs.length := by omega
  have hpi0 : (0 : Int) < (cs.length : Int) := by omega
  have hp1 : 1 < cs.length := by omega
  have hpi1 : (1 : Int) < (cs.length : Int) := by omega
  obtain ⟨rfl, hbB⟩ := hK.hA (by omega)
  obtain ⟨g0, g1, A2, n2, d2, A3, n3, d3, hsh⟩ := (hK.hsub 1 (by omega)).shape
  have HSH := Lib.hid hsh
  clear hsh
  have HK := Lib.hid hK
  clear hK hcl
  go_enter Tryd.func26, Tryd.ntmps26
  go_wp2_with fail
  go_quiet (fail)
  go_wp2_with fail
  obtain ⟨gX, eX, tX⟩ := HX.out nq
  have z0 := y0 nq
  have z10 := y10 nq
  have z11 := y11 nq
  have z12 := y12 nq
  have z13 := y13 nq
  have z20 := y20 nq
  clear y0 y10 y11 y12 y13 y20 r1 r5 f5 b0 HX
  generalize (((((W.alloc (.cells #[.pointer (some ⟨rb, 0, none⟩)] 49)).alloc (.cells #[.int .i64 5, .int .i64 n0, .slice Ak ks.length ck, .slice (some ⟨b, o, none⟩) cs.length cc] 26)).alloc (.cells #[.pointer pk] 83)).drewN nq).setCell ⟨rb, 5, none⟩ (.int .i64 (st + 1))) = V at *
  have HKid := Lib.hid (fun (i : Nat) (hi : i < cs.length) (s' : St) (m' : Mem) (V' : World) (hE : Evo rb m m' V V') (hg' : Good rb B inp fuel s' m' V') (hn1 : s'.left < n) => (show Calls Tryd.prog 38 #[.int .i64 (i : Int), .pointer (some ⟨W.heap.size, 0, none⟩), .pointer (some ⟨W.heap.size + 1, 0, none⟩), .pointer (some ⟨W.heap.size + 1 + 1, 0, none⟩)] V' (EvPost rb B inp fuel m' V' (ev inp n cs[i] e s')) from
     kid_term HOK.out hg' (tX.evo gX hE) hWT.out hi hn1))
  have HS := Lib.hid (fun (V' : World) (m' : Mem) (hE : Evo rb m m' V V') => (show V'.cell? ⟨W.heap.size, 0, none⟩ = some (.pointer (some ⟨rb, 0, none⟩)) ∧ V'.cell? ⟨W.heap.size + 1, 1, none⟩ = some (.int .i64 n0) ∧ V'.cell? ⟨W.heap.size + 1, 3, none⟩ = some (.slice (some ⟨b, o, none⟩) cs.length cc) ∧ V'.cell? ⟨W.heap.size + 1 + 1, 0, none⟩ = some (.pointer pk) ∧ V'.cell? ⟨b, o + 4, none⟩ = some (.int .i64 g0) ∧ V'.cell? ⟨b, o + 5, none⟩ = some (.int .i64 g1) ∧ V'.cell? ⟨b, o + 6, none⟩ = some (.slice A2 n2 d2) ∧ V'.cell? ⟨b, o + 7, none⟩ = some (.slice A3 n3 d3) from by
    have hst := HST.out _ _ (eX.trans hE)
    have hsh := HSH.out
    simp only [Array.mk.injEq, List.cons.injEq, and_true] at hsh
    obtain ⟨s0, s1, s2, s3⟩ := hsh
    refine ⟨at_cell0 (tX.r.evo hE) rfl, at_cell0 (tX.c.evo hE) rfl, at_cell0 (tX.c.evo hE) rfl, at_cell0 (tX.k.evo hE) rfl, ?_, ?_, ?_, ?_⟩
    · have := hst _ _ _ hbB (HK.out.c0 1 (by omega)); rw [s0] at this; simpa [Nat.add_assoc] using this
    · have := hst _ _ _ hbB (HK.out.c1 1 (by omega)); rw [s1] at this; simpa [Nat.add_assoc] using this
    · have := hst _ _ _ hbB (HK.out.c2 1 (by omega)); rw [s2] at this; simpa [Nat.add_assoc] using this
    · have := hst _ _ _ hbB (HK.out.c3 1 (by omega)); rw [s3] at this; simpa [Nat.add_assoc] using this))
  have hd : Evo rb m m V V.drew := (Evo.refl _ _ _).drew
  have hO1 := HO.out.symm.trans (show _ = Out.andThen (ev inp n cs[0] e { s with left := s.left - 1 }) (fun v s => ev inp n cs[1] ((n0, v) :: e) s) from by simp [bodyP, Core.k, Core.n, Core.cs, hp0, hp1])
  have C0 := Lib.hid (show Calls Tryd.prog 38 #[.int .i64 0, .pointer (some ⟨W.heap.size, 0, none⟩), .pointer (some ⟨W.heap.size + 1, 0, none⟩), .pointer (some ⟨W.heap.size + 1 + 1, 0, none⟩)] V.drew (KidEnds rb B inp fuel (ev inp n cs[0] e { s with left := s.left - 1 }) m V.drew m W out) from
    (HKid.out 0 hp0 _ m V.drew hd (gX.below (Below.refl _ _).drew) hn').mono fun en V1 h => kidEnds h (eX.trans hd) hO1)
  have hle := (ev_le inp n cs[0] e { s with left := s.left - 1 }).left
  have CT := Lib.hid (fun (v : PV) (s2 : St) (m2 : Mem) (V2 : World) (T : TypeId) (x : Value) (ho : ev inp n cs[0] e { s with left := s.left - 1 } = (.val v, s2)) (hk : Evo rb m m2 V.drew V2) (hg2 : Good rb B inp fuel s2 m2 V2) (hv : RepV rb m2 V2 v (.iface T x)) =>
    (show Calls Tryd.prog 26 #[.pointer (some ⟨rb, 0, none⟩), .agg #[.int .i64 g0, .int .i64 g1, .slice A2 n2 d2, .slice A3 n3 d3], .pointer (some ⟨V2.heap.size, 0, none⟩)] (V2.alloc (.cells #[.int .i64 n0, .iface T x, .pointer pk] 93)) (LastEnds rb B inp fuel m2 (V2.alloc (.cells #[.int .i64 n0, .iface T x, .pointer pk] 93)) m W out) from by
      have ha : Evo rb m2 m2 V2 (V2.alloc (.cells #[.int .i64 n0, .iface T x, .pointer pk] 93)) := Evo.alloc _ _ _ _
      have hga := hg2.below ((Below.refl _ _).alloc (Nat.le_refl _) (.cells #[.int .i64 n0, .iface T x, .pointer pk] 93))
      have hE := ((eX.trans hd).trans hk).trans ha
      have henv : EnvIn rb m2 (V2.alloc (.cells #[.int .i64 n0, .iface T x, .pointer pk] 93)) ((n0, v) :: e) (.pointer (some ⟨V2.heap.size, 0, none⟩)) := .cons (at_new (fun k hk => hg2.apartLt hk) _ _) (hv.evo ha) (tX.env.evo ((hd.trans hk).trans ha))
      have hc : CoreIn B (V2.alloc (.cells #[.int .i64 n0, .iface T x, .pointer pk] 93)) cs[1] #[.int .i64 g0, .int .i64 g1, .slice A2 n2 d2, .slice A3 n3 d3] := by
        rw [← HSH.out]; exact (HK.out.hsub 1 hp1).stay (HST.out _ _ hE)
      rw [ho] at hle hO1
      refine (HOK.out cs[1] ((n0, v) :: e) s2 m2 _ _ _ hc (hWT.out.kid (List.getElem_mem hp1)) henv hga (Nat.lt_of_le_of_lt hle hn')).mono fun en V4 h => ?_
      have he : out = ev inp n cs[1] ((n0, v) :: e) s2 := hO1
      rw [he]
      exact lastEnds h hE))
  have hd' := Lib.hid hd
  clear hO1 gX eX tX hd hbB hle HKid
  go_region_held2 (fun V' => V'.cell? ⟨W.heap.size, 0, none⟩ = some (.pointer (some ⟨rb, 0, none⟩)) ∧ V'.cell? ⟨W.heap.size + 1, 1, none⟩ = some (.int .i64 n0) ∧ V'.cell? ⟨W.heap.size + 1, 3, none⟩ = some (.slice (some ⟨b, o, none⟩) cs.length cc) ∧ V'.cell? ⟨W.heap.size + 1 + 1, 0, none⟩ = some (.pointer pk) ∧ V'.cell? ⟨b, o + 4, none⟩ = some (.int .i64 g0) ∧ V'.cell? ⟨b, o + 5, none⟩ = some (.int .i64 g1) ∧ V'.cell? ⟨b, o + 6, none⟩ = some (.slice A2 n2 d2) ∧ V'.cell? ⟨b, o + 7, none⟩ = some (.slice A3 n3 d3))
    (first | exact HS.out _ _ hd'.out | exact HS.out _ _ (hd'.out.trans hk3) | exact HS.out _ _ ((hd'.out.trans hk3).trans (Evo.alloc _ _ _ _)) | exact HS.out _ _ (((hd'.out.trans hk3).trans (Evo.alloc _ _ _ _)).trans hk4))
    ((first
      | (go_at_call 38; refine C0.out.mono ?_; rintro en w' (⟨a, s3, m3, Ta, xa, hO1, rfl, hk3, hg3, ha⟩ | ⟨ch, rfl, _, hP⟩); rotate_left; exact ⟨rfl, hP⟩)
      | (go_at_call 26; refine (CT.out a s3 m3 _ Ta xa hO1 hk3 hg3 ha).mono ?_; rintro en w' ⟨⟨g, rfl⟩ | ⟨ch, rfl⟩, ⟨m4, hk4⟩, hP⟩; rotate_left; exact ⟨rfl, hP⟩)))
  all_goals (go_wp2_with fail; go_ret; exact hP)

set_option maxRecDepth 100000 in
set_option maxHeartbeats 4000000 in
theorem term_fix {rb B : Nat} {inp : List Int} {fuel n : Nat} (hok : TermOk rb B inp fuel n) {s : St} {m : Mem} {W : World} (hg : Good rb B inp fuel s m W) {t : Core} {v : Array Value} (hin : CoreIn B W t v) (hwt : WT t) {e : PEnv} {ge : Value} (he : EnvIn rb m W e ge) (hn : s.left < n + 1) (h0 : 0 < s.left) (hk : t.k = 6) :
    Calls Tryd.prog 26 #[.pointer (some ⟨rb, 0, none⟩), .agg v, ge] W (EvPost rb B inp fuel m W (bodyP inp (ev inp n) t e { s with left := s.left - 1 })) := by
  obtain ⟨hb, hg3, hT⟩ := frame_at hg hin he
  have hrbl := hg.mutLt (k := rb) (.inl rfl)
  obtain ⟨k0, n0, ks, cs, Ak, ck, Ac, cc, b, o, G0, G1, G2, G3, rfl, rfl, hks, hck, hcc, hK⟩ := hin.open_
  simp only [Core.k] at hk
  subst hk
  obtain ⟨pk, rfl⟩ := he.shape
  obtain ⟨Ai, ci, hr, _⟩ := hg3.run
  have hfu := hg.fuelB
  have hle := hg.left
  have hbn := hg.bnd
  obtain ⟨st, hst⟩ : ∃ st : Int, st = (fuel : Int) - s.left := ⟨_, rfl⟩
  have hst0 : 0 ≤ st := by omega
  have hst1 : st < (fuel : Int) := by omega
  have hst2 : st ≤ 1000000 := by omega
  have r1 : (frameW W rb #[.int .i64 6, .int .i64 n0, .slice Ak ks.length ck, .slice Ac cs.length cc] (.pointer pk)).cell? ⟨rb, 1, none⟩ = some (.int .i64 fuel) := by simp [World.cell?, hr]
  have r5 : (frameW W rb #[.int .i64 6, .int .i64 n0, .slice Ak ks.length ck, .slice Ac cs.length cc] (.pointer pk)).cell? ⟨rb, 5, none⟩ = some (.int .i64 st) := by simp [World.cell?, hr, hst]
  have f5 : (frameW W rb #[.int .i64 6, .int .i64 n0, .slice Ak ks.length ck, .slice Ac cs.length cc] (.pointer pk)).frozen? ⟨rb, 5, none⟩ = false := by simp [World.frozen?, hr]
  have b0 := at_cell0 hT.r (i := 0) rfl
  simp only [List.getElem_toArray, List.getElem_cons_zero] at b0
  have hX : ∀ nq : Nat, Good rb B inp fuel { s with left := s.left - 1 } m (((frameW W rb #[.int .i64 6, .int .i64 n0, .slice Ak ks.length ck, .slice Ac cs.length cc] (.pointer pk)).drewN nq).setCell ⟨rb, 5, none⟩ (.int .i64 (st + 1))) ∧
      Evo rb m m W (((frameW W rb #[.int .i64 6, .int .i64 n0, .slice Ak ks.length ck, .slice Ac cs.length cc] (.pointer pk)).drewN nq).setCell ⟨rb, 5, none⟩ (.int .i64 (st + 1))) ∧
      TermAt rb B m (((frameW W rb #[.int .i64 6, .int .i64 n0, .slice Ak ks.length ck, .slice Ac cs.length cc] (.pointer pk)).drewN nq).setCell ⟨rb, 5, none⟩ (.int .i64 (st + 1))) (.mk 6 n0 ks cs) #[.int .i64 6, .int .i64 n0, .slice Ak ks.length ck, .slice Ac cs.length cc] e (.pointer pk) W.heap.size := by
    intro nq
    have hkd : Evo rb m m (frameW W rb #[.int .i64 6, .int .i64 n0, .slice Ak ks.length ck, .slice Ac cs.length cc] (.pointer pk)) ((frameW W rb #[.int .i64 6, .int .i64 n0, .slice Ak ks.length ck, .slice Ac cs.length cc] (.pointer pk)).drewN nq) := Evo.below (below_drewN (Below.refl _ _) _)
    obtain ⟨q1, q2⟩ := (hg3.below (below_drewN (Below.refl _ _) nq)).step h0
    rw [← hst] at q1 q2
    exact ⟨q1, ((Evo.below hb).trans hkd).trans q2, hT.evo hg3 (hkd.trans q2)⟩
  have x0 := fun nq => (fun (hx : TermAt rb B m (((frameW W rb #[.int .i64 6, .int .i64 n0, .slice Ak ks.length ck, .slice Ac cs.length cc] (.pointer pk)).drewN nq).setCell ⟨rb, 5, none⟩ (.int .i64 (st + 1))) (.mk 6 n0 ks cs) #[.int .i64 6, .int .i64 n0, .slice Ak ks.length ck, .slice Ac cs.length cc] e (.pointer pk) W.heap.size) =>
    (show _ ∧ _ ∧ _ ∧ _ ∧ _ ∧ _ from ⟨at_cell0 hx.r (i := 0) rfl, at_cell0 hx.c (i := 0) rfl, at_cell0 hx.c (i := 1) rfl, at_cell0 hx.c (i := 2) rfl, at_cell0 hx.c (i := 3) rfl, at_cell0 hx.k (i := 0) rfl⟩)) (hX nq).2.2
  have y0 := fun nq => (x0 nq).1
  have y10 := fun nq => (x0 nq).2.1
  have y11 := fun nq => (x0 nq).2.2.1
  have y12 := fun nq => (x0 nq).2.2.2.1
  have y13 := fun nq => (x0 nq).2.2.2.2.1
  have y20 := fun nq => (x0 nq).2.2.2.2.2
  simp only [List.getElem_toArray, List.getElem_cons_zero, List.getElem_cons_succ] at y0 y10 y11 y12 y13 y20
  have HX := Lib.hid hX
  have HST := Lib.hid (fun (m' : Mem) (V' : World) (h : Evo rb m m' W V') => hg.stay h)
  have hWT := Lib.hid hwt
  have HOK := Lib.hid hok
  have hn' : s.left - 1 < n := by omega
  have HLT := Lib.hid (show s.out.length + (s.left - 1) < fuel by omega)
  obtain ⟨out, hout⟩ : ∃ out, bodyP inp (ev inp n) (.mk 6 n0 ks cs) e { s with left := s.left - 1 } = out := ⟨_, rfl⟩
  rw [hout]
  have HO := Lib.hid hout
  unfold frameW at r1 r5 f5 b0 y0 y10 y11 y12 y13 y20 HX
  clear hb hg hg3 hT hin he hr hX x0 hst hok hwt hn h0 hle hbn hout
  have hcl : 1 ≤ cs.length := by
    have h1 := hWT.out.node.2.2.2.1
    simp only [Core.k, Core.ks, Core.cs, Core.n, cntB, if_true] at h1
    have h1 := of_decide_eq_true h1
    omega
  have hc64 := hK.hcl
  obtain ⟨L, hL⟩ : ∃ L, cs.length = L + 1 := ⟨cs.length - 1, by omega⟩
  have hwL : IntKind.i64.wrap ((cs.length : Int) - 1) = (L : Int) := by rw [IntKind.wrap_i64]; omega
  have hL0 : (0 : Int) ≤ (L : Int) := by omega
  have hL1 : (L : Int) < (cs.length : Int) := by omega
  have hL2 : L < cs.length := by omega
  have HLL := Lib.hid hL
  clear hL hc64
  obtain ⟨rfl, hbB⟩ := hK.hA (by omega)
  obtain ⟨g0, g1, A2, n2, d2, A3, n3, d3, hsh⟩ := (hK.hsub L (by omega)).shape
  have HSH := Lib.hid hsh
  clear hsh
  have HK := Lib.hid hK
  clear hK hcl
  go_enter Tryd.func26, Tryd.ntmps26
  go_wp2_with fail
  go_quiet (fail)
  go_wp2_with fail
  obtain ⟨gX, eX, tX⟩ := HX.out nq
  have z0 := y0 nq
  have z10 := y10 nq
  have z11 := y11 nq
  have z12 := y12 nq
  have z13 := y13 nq
  have z20 := y20 nq
  clear y0 y10 y11 y12 y13 y20 r1 r5 f5 b0 HX
  generalize (((((W.alloc (.cells #[.pointer (some ⟨rb, 0, none⟩)] 49)).alloc (.cells #[.int .i64 6, .int .i64 n0, .slice Ak ks.length ck, .slice (some ⟨b, o, none⟩) cs.length cc] 26)).alloc (.cells #[.pointer pk] 83)).drewN nq).setCell ⟨rb, 5, none⟩ (.int .i64 (st + 1))) = V at *
  have HS := Lib.hid (fun (V' : World) (m' : Mem) (hE : Evo rb m m' V V') => (show V'.cell? ⟨W.heap.size, 0, none⟩ = some (.pointer (some ⟨rb, 0, none⟩)) ∧ V'.cell? ⟨W.heap.size + 1, 0, none⟩ = some (.int .i64 6) ∧ V'.cell? ⟨W.heap.size + 1, 1, none⟩ = some (.int .i64 n0) ∧ V'.cell? ⟨W.heap.size + 1, 2, none⟩ = some (.slice Ak ks.length ck) ∧ V'.cell? ⟨W.heap.size + 1, 3, none⟩ = some (.slice (some ⟨b, o, none⟩) cs.length cc) ∧ V'.cell? ⟨W.heap.size + 1 + 1, 0, none⟩ = some (.pointer pk) ∧ V'.cell? ⟨b, o + L * 4, none⟩ = some (.int .i64 g0) ∧ V'.cell? ⟨b, o + L * 4 + 1, none⟩ = some (.int .i64 g1) ∧ V'.cell? ⟨b, o + L * 4 + 2, none⟩ = some (.slice A2 n2 d2) ∧ V'.cell? ⟨b, o + L * 4 + 3, none⟩ = some (.slice A3 n3 d3) from by
    have hst := HST.out _ _ (eX.trans hE)
    have hsh := HSH.out
    simp only [Array.mk.injEq, List.cons.injEq, and_true] at hsh
    obtain ⟨s0, s1, s2, s3⟩ := hsh
    refine ⟨at_cell0 (tX.r.evo hE) rfl, at_cell0 (tX.c.evo hE) rfl, at_cell0 (tX.c.evo hE) rfl, at_cell0 (tX.c.evo hE) rfl, at_cell0 (tX.c.evo hE) rfl, at_cell0 (tX.k.evo hE) rfl, ?_, ?_, ?_, ?_⟩
    · rw [← s0]; exact hst _ _ _ hbB (HK.out.c0 L hL2)
    · rw [← s1]; exact hst _ _ _ hbB (HK.out.c1 L hL2)
    · rw [← s2]; exact hst _ _ _ hbB (HK.out.c2 L hL2)
    · rw [← s3]; exact hst _ _ _ hbB (HK.out.c3 L hL2)))
  have hd : Evo rb m m V V.drew := (Evo.refl _ _ _).drew
  have hO1 := HO.out.symm.trans (show _ = ev inp n cs[L] (fixEnv ks s.fns.length e) { s with left := s.left - 1, fns := s.fns ++ fixFns (fixEnv ks s.fns.length e) ks cs } from by
    have h1 : cs.length - 1 = L := by have := HLL.out; omega
    simp [bodyP, Core.k, Core.n, Core.cs, Core.ks, h1, hL2])
  have CF := Lib.hid (fixed_any (gX.below (Below.refl _ _).drew) (tX.core.stay (gX.stay hd)) hWT.out rfl (tX.env.evo hd))
  have CT := Lib.hid (fun (m2 : Mem) (V2 : World) (gp : Option Addr) (hg2 : Good rb B inp fuel { s with left := s.left - 1, fns := s.fns ++ fixFns (fixEnv ks s.fns.length e) ks cs } m2 V2) (hk : Evo rb m m2 V.drew V2) (he : EnvIn rb m2 V2 (fixEnv ks s.fns.length e) (.pointer gp)) =>
    (show Calls Tryd.prog 26 #[.pointer (some ⟨rb, 0, none⟩), .agg #[.int .i64 g0, .int .i64 g1, .slice A2 n2 d2, .slice A3 n3 d3], .pointer gp] V2 (LastEnds rb B inp fuel m2 V2 m W out) from by
      have hE := (eX.trans hd).trans hk
      have hc : CoreIn B V2 cs[L] #[.int .i64 g0, .int .i64 g1, .slice A2 n2 d2, .slice A3 n3 d3] := by
        rw [← HSH.out]; exact (HK.out.hsub L hL2).stay (HST.out _ _ hE)
      refine (HOK.out cs[L] _ _ m2 _ _ _ hc (hWT.out.kid (List.getElem_mem hL2)) he hg2 hn').mono fun en V4 h => ?_
      rw [hO1]
      exact lastEnds h hE))
  have hd' := Lib.hid hd
  clear hO1 gX eX tX hd hbB
  go_region_held2 (fun V' => V'.cell? ⟨W.heap.size, 0, none⟩ = some (.pointer (some ⟨rb, 0, none⟩)) ∧ V'.cell? ⟨W.heap.size + 1, 0, none⟩ = some (.int .i64 6) ∧ V'.cell? ⟨W.heap.size + 1, 1, none⟩ = some (.int .i64 n0) ∧ V'.cell? ⟨W.heap.size + 1, 2, none⟩ = some (.slice Ak ks.length ck) ∧ V'.cell? ⟨W.heap.size + 1, 3, none⟩ = some (.slice (some ⟨b, o, none⟩) cs.length cc) ∧ V'.cell? ⟨W.heap.size + 1 + 1, 0, none⟩ = some (.pointer pk) ∧ V'.cell? ⟨b, o + L * 4, none⟩ = some (.int .i64 g0) ∧ V'.cell? ⟨b, o + L * 4 + 1, none⟩ = some (.int .i64 g1) ∧ V'.cell? ⟨b, o + L * 4 + 2, none⟩ = some (.slice A2 n2 d2) ∧ V'.cell? ⟨b, o + L * 4 + 3, none⟩ = some (.slice A3 n3 d3))
    (first | exact HS.out _ _ hd'.out | exact HS.out _ _ (hd'.out.trans hk3) | exact HS.out _ _ ((hd'.out.trans hk3).trans hk4))
    ((first
      | (go_at_call 42; refine CF.out.mono ?_; rintro en w' ⟨m3, gp, rfl, hg3, hk3, he3⟩)
      | (go_at_call 26; refine (CT.out m3 _ gp hg3 hk3 he3).mono ?_; rintro en w' ⟨⟨g, rfl⟩ | ⟨ch, rfl⟩, ⟨m4, hk4⟩, hP⟩; rotate_left; exact ⟨rfl, hP⟩)))
  all_goals (go_wp2_with fail; go_ret; exact hP)
end Go.Proofs.YtnolhcdfknjncaaDoor

/-
  The program's evaluator: fields, switches.
-/
set_option linter.unusedVariables false
set_option linter.unusedSimpArgs false
namespace Go.Proofs.YtnolhcdfknjncaaDoor
open Go.RowKit

set_option maxRecDepth 100000 in
set_option maxHeartbeats 4000000 in
theorem term_field {rb B : Nat} {inp : List Int} {fuel n : Nat} (hok : TermOk rb B inp fuel n) {s : St} {m : Mem} {W : World} (hg : Good rb B inp fuel s m W) {t : Core} {v : Array Value} (hin : CoreIn B W t v) (hwt : WT t) {e : PEnv} {ge : Value} (he : EnvIn rb m W e ge) (hn : s.left < n + 1) (h0 : 0 < s.left) (hk : t.k = 8) :
    Calls Tryd.prog 26 #[.pointer (some ⟨rb, 0, none⟩), .agg v, ge] W (EvPost rb B inp fuel m W (bodyP inp (ev inp n) t e { s with left := s.left - 1 })) := by
  obtain ⟨hb, hg3, hT⟩ := frame_at hg hin he
  have hrbl := hg.mutLt (k := rb) (.inl rfl)
  obtain ⟨k0, n0, ks, cs, Ak, ck, Ac, cc, b, o, G0, G1, G2, G3, rfl, rfl, hks, hck, hcc, hK⟩ := hin.open_
  simp only [Core.k] at hk
  subst hk
  obtain ⟨pk, rfl⟩ := he.shape
  obtain ⟨Ai, ci, hr, _⟩ := hg3.run
  have hfu := hg.fuelB
  have hle := hg.left
  have hbn := hg.bnd
  obtain ⟨st, hst⟩ : ∃ st : Int, st = (fuel : Int) - s.left := ⟨_, rfl⟩
  have hst0 : 0 ≤ st := by omega
  have hst1 : st < (fuel : Int) := by omega
  have hst2 : st ≤ 1000000 := by omega
  have r1 : (frameW W rb #[.int .i64 8, .int .i64 n0, .slice Ak ks.length ck, .slice Ac cs.length cc] (.pointer pk)).cell? ⟨rb, 1, none⟩ = some (.int .i64 fuel) := by simp [World.cell?, hr]
  have r5 : (frameW W rb #[.int .i64 8, .int .i64 n0, .slice Ak ks.length ck, .slice Ac cs.length cc] (.pointer pk)).cell? ⟨rb, 5, none⟩ = some (.int .i64 st) := by simp [World.cell?, hr, hst]
  have f5 : (frameW W rb #[.int .i64 8, .int .i64 n0, .slice Ak ks.length ck, .slice Ac cs.length cc] (.pointer pk)).frozen? ⟨rb, 5, none⟩ = false := by simp [World.frozen?, hr]
  have b0 := at_cell0 hT.r (i := 0) rfl
  simp only [List.getElem_toArray, List.getElem_cons_zero] at b0
  have hX : ∀ nq : Nat, Good rb B inp fuel { s with left := s.left - 1 } m (((frameW W rb #[.int .i64 8, .int .i64 n0, .slice Ak ks.length ck, .slice Ac cs.length cc] (.pointer pk)).drewN nq).setCell ⟨rb, 5, none⟩ (.int .i64 (st + 1))) ∧
      Evo rb m m W (((frameW W rb #[.int .i64 8, .int .i64 n0, .slice Ak ks.length ck, .slice Ac cs.length cc] (.pointer pk)).drewN nq).setCell ⟨rb, 5, none⟩ (.int .i64 (st + 1))) ∧
      TermAt rb B m (((frameW W rb #[.int .i64 8, .int .i64 n0, .slice Ak ks.length ck, .slice Ac cs.length cc] (.pointer pk)).drewN nq).setCell ⟨rb, 5, none⟩ (.int .i64 (st + 1))) (.mk 8 n0 ks cs) #[.int .i64 8, .int .i64 n0, .slice Ak ks.length ck, .slice Ac cs.length cc] e (.pointer pk) W.heap.size := by
    intro nq
    have hkd : Evo rb m m (frameW W rb #[.int .i64 8, .int .i64 n0, .slice Ak ks.length ck, .slice Ac cs.length cc] (.pointer pk)) ((frameW W rb #[.int .i64 8, .int .i64 n0, .slice Ak ks.length ck, .slice Ac cs.length cc] (.pointer pk)).drewN nq) := Evo.below (below_drewN (Below.refl _ _) _)
    obtain ⟨q1, q2⟩ := (hg3.below (below_drewN (Below.refl _ _) nq)).step h0
    rw [← hst] at q1 q2
    exact ⟨q1, ((Evo.below hb).trans hkd).trans q2, hT.evo hg3 (hkd.trans q2)⟩
  have x0 := fun nq => (fun (hx : TermAt rb B m (((frameW W rb #[.int .i64 8, .int .i64 n0, .slice Ak ks.length ck, .slice Ac cs.length cc] (.pointer pk)).drewN nq).setCell ⟨rb, 5, none⟩ (.int .i64 (st + 1))) (.mk 8 n0 ks cs) #[.int .i64 8, .int .i64 n0, .slice Ak ks.length ck, .slice Ac cs.length cc] e (.pointer pk) W.heap.size) =>
    (show _ ∧ _ ∧ _ ∧ _ ∧ _ ∧ _ from ⟨at_cell0 hx.r (i := 0) rfl, at_cell0 hx.c (i := 0) rfl, at_cell0 hx.c (i := 1) rfl, at_cell0 hx.c (i := 2) rfl, at_cell0 hx.c (i := 3) rfl, at_cell0 hx.k (i := 0) rfl⟩)) (hX nq).2.2
  have y0 := fun nq => (x0 nq).1
  have y10 := fun nq => (x0 nq).2.1
  have y11 := fun nq => (x0 nq).2.2.1
  have y12 := fun nq => (x0 nq).2.2.2.1
  have y13 := fun nq => (x0 nq).2.2.2.2.1
  have y20 := fun nq => (x0 nq).2.2.2.2.2
  simp only [List.getElem_toArray, List.getElem_cons_zero, List.getElem_cons_succ] at y0 y10 y11 y12 y13 y20
  have HX := Lib.hid hX
  have HST := Lib.hid (fun (m' : Mem) (V' : World) (h : Evo rb m m' W V') => hg.stay h)
  have hWT := Lib.hid hwt
  have HOK := Lib.hid hok
  have hn' : s.left - 1 < n := by omega
  have HLT := Lib.hid (show s.out.length + (s.left - 1) < fuel by omega)
  obtain ⟨out, hout⟩ : ∃ out, bodyP inp (ev inp n) (.mk 8 n0 ks cs) e { s with left := s.left - 1 } = out := ⟨_, rfl⟩
  rw [hout]
  have HO := Lib.hid hout
  unfold frameW at r1 r5 f5 b0 y0 y10 y11 y12 y13 y20 HX
  clear hb hg hg3 hT hin he hr hX x0 hst hok hwt hn h0 hle hbn hout
  have hcl : cs.length = 1 := by
    have h1 := hWT.out.node.2.2.2.1
    simp [Core.k, Core.ks, Core.cs, Core.n, cntB, kidsL] at h1
    omega
  have hp0 : 0 < cs.length := by omega
  have hpi0 : (0 : Int) < (cs.length : Int) := by omega
  clear hcl
  have hn0 : 0 ≤ n0 := by
    have h1 := hWT.out.node.2.2.1
    by_cases hn : 0 ≤ n0 ∧ n0 ≤ 7
    · exact hn.1
    · simp [Core.k, Core.n, numE, hn] at h1
  go_enter Tryd.func26, Tryd.ntmps26
  go_wp2_with fail
  go_quiet (fail)
  go_wp2_with fail
  obtain ⟨gX, eX, tX⟩ := HX.out nq
  have z0 := y0 nq
  have z10 := y10 nq
  have z11 := y11 nq
  have z12 := y12 nq
  have z13 := y13 nq
  have z20 := y20 nq
  clear y0 y10 y11 y12 y13 y20 r1 r5 f5 b0 HX
  generalize (((((W.alloc (.cells #[.pointer (some ⟨rb, 0, none⟩)] 49)).alloc (.cells #[.int .i64 8, .int .i64 n0, .slice Ak ks.length ck, .slice Ac cs.length cc] 26)).alloc (.cells #[.pointer pk] 83)).drewN nq).setCell ⟨rb, 5, none⟩ (.int .i64 (st + 1))) = V at *
  have HKid := Lib.hid (fun (i : Nat) (hi : i < cs.length) (s' : St) (m' : Mem) (V' : World) (hE : Evo rb m m' V V') (hg' : Good rb B inp fuel s' m' V') (hn1 : s'.left < n) => (show Calls Tryd.prog 38 #[.int .i64 (i : Int), .pointer (some ⟨W.heap.size, 0, none⟩), .pointer (some ⟨W.heap.size + 1, 0, none⟩), .pointer (some ⟨W.heap.size + 1 + 1, 0, none⟩)] V' (EvPost rb B inp fuel m' V' (ev inp n cs[i] e s')) from
     kid_term HOK.out hg' (tX.evo gX hE) hWT.out hi hn1))
  have hO1 := HO.out.symm.trans (show _ = Out.andThen (ev inp n cs[0] e { s with left := s.left - 1 }) (fun v s => (match v with | .blk _ l => if n0 < l.length then (.val (l[n0.toNat]?.getD default), s) else (.stuck, s) | _ => (.stuck, s) : Out)) from by simp [bodyP, Core.k, Core.n, Core.cs, hp0]; rfl)
  have C0 := Lib.hid ((HKid.out 0 hp0 _ m V (Evo.refl _ _ _) gX hn').mono fun en V1 h => kidEnds h eX hO1)
  have HO1 := Lib.hid hO1
  clear hO1
  have HS := Lib.hid (fun (V' : World) (m' : Mem) (hE : Evo rb m m' V V') => (show V'.cell? ⟨W.heap.size + 1, 1, none⟩ = some (.int .i64 n0) from at_cell0 (tX.c.evo hE) rfl))
  refine C0.out.mono ?_
  rintro en V1 (⟨v, s2, m2, T, x, hO, rfl, hk1, hg1, hv⟩ | ⟨ch, rfl, _, hP⟩)
  rotate_left
  · exact ⟨rfl, hP⟩
  have zz := HS.out _ _ hk1
  have hO2 := HO1.out
  rw [hO] at hO2
  have hNo := Lib.hid (fun (h : out = (.stuck, s2)) (V2 : World) (h2 : Below V1.heap.size V1 V2) => (show EvPost rb B inp fuel m W out (.panicked (stopV 4)) V2 from by
    rw [h]; exact EvPost.stuck ((eX.trans hk1).trans (Evo.below h2)) (hg1.below h2) (thrown_one _ _)))
  have hE1 := Lib.hid (eX.trans hk1)
  clear HKid C0 gX eX tX hO hk1
  cases v with
  | int i =>
    cases hv
    have HN := Lib.hid (hNo.out hO2)
    clear hO2
    go_wp2_with fail
    go_quiet (fail)
    go_wp2_with (go_at_call 40; refine (stuck_any _).mono ?_; rintro e w' ⟨rfl, rfl⟩)
    exact ⟨rfl, HN.out _ (below_drewN (Below.refl _ _) _)⟩
  | fn i =>
    cases hv
    have HN := Lib.hid (hNo.out hO2)
    clear hO2
    go_wp2_with fail
    go_quiet (fail)
    go_wp2_with (go_at_call 40; refine (stuck_any _).mono ?_; rintro e w' ⟨rfl, rfl⟩)
    exact ⟨rfl, HN.out _ (below_drewN (Below.refl _ _) _)⟩
  | ref i =>
    cases hv
    have HN := Lib.hid (hNo.out hO2)
    clear hO2
    go_wp2_with fail
    go_quiet (fail)
    go_wp2_with (go_at_call 40; refine (stuck_any _).mono ?_; rintro e w' ⟨rfl, rfl⟩)
    exact ⟨rfl, HN.out _ (below_drewN (Below.refl _ _) _)⟩
  | blk tag l =>
    cases hv with
    | @blk _ _ b1 gg cap F hb hgl hgm hl h8 hc hk =>
      have q1 := at_cell0 hb (i := 1) rfl
      simp only [List.getElem_toArray, List.getElem_cons_zero, List.getElem_cons_succ] at q1
      by_cases hlt : n0 < (l.length : Int)
      · have hlt2 : n0.toNat < l.length := by omega
        obtain ⟨T, x, hF⟩ := (hk _ hlt2).shape
        have q2 := hc _ hlt2
        rw [hF] at q2
        have HP := Lib.hid (fun (V2 : World) (h2 : Below V1.heap.size V1 V2) => (show EvPost rb B inp fuel m W out (.returned (.iface T x)) V2 from by
          have he : out = (.val (l[n0.toNat]), s2) := by
            have h1 : out = (if n0 < l.length then (.val (l[n0.toNat]?.getD default), s2) else (.stuck, s2)) := hO2
            rw [if_pos hlt] at h1
            simpa [hlt2] using h1
          rw [he]
          exact EvPost.val (hE1.out.trans (Evo.below h2)) (hg1.below h2) (by rw [← hF]; exact (hk _ hlt2).evo (Evo.below h2))))
        clear hO2 hk hb hc hg1 hF
        generalize l.length = ln at *
        go_wp2_with fail
        go_quiet (fail)
        go_wp2_with fail
        go_quiet (fail)
        go_wp2_with fail
        go_ret
        exact HP.out _ (by first | exact below_drewN (below_drewN (Below.refl _ _) _) _ | exact below_drewN (Below.refl _ _) _)
      · have HN := Lib.hid (hNo.out (by
          have h1 : out = (if n0 < l.length then (.val (l[n0.toNat]?.getD default), s2) else (.stuck, s2)) := hO2
          rwa [if_neg hlt] at h1))
        have hge : (l.length : Int) ≤ n0 := by omega
        clear hO2 hk hb hc hg1
        generalize l.length = ln at *
        go_wp2_with fail
        go_quiet (fail)
        go_wp2_with (go_at_call 40; refine (stuck_any _).mono ?_; rintro e w' ⟨rfl, rfl⟩)
        exact ⟨rfl, HN.out _ (below_drewN (Below.refl _ _) _)⟩
end Go.Proofs.YtnolhcdfknjncaaDoor

/-
  The program's evaluator: switches.
-/
set_option linter.unusedVariables false
set_option linter.unusedSimpArgs false
namespace Go.Proofs.YtnolhcdfknjncaaDoor
open Go.RowKit

theorem whichAt_found {ks : List Int} {key : Int} {j : Nat} (hj : j < ks.length) (h : nth ks j = key) (hn : ∀ i, i < j → nth ks i ≠ key) : whichAt ks key = j + 1 := by
  have : ks.findIdx? (· == key) = some j := by
    rw [List.findIdx?_eq_some_iff_getElem]
    refine ⟨hj, by rw [nth_eq ks hj] at h; simp [h], fun i hi => ?_⟩
    have := hn i hi
    rw [nth_eq ks (by omega)] at this
    simpa using this
  simp [whichAt, this]
theorem whichAt_none {ks : List Int} {key : Int} (hn : ∀ i, i < ks.length → nth ks i ≠ key) : whichAt ks key = 0 := by
  have : ks.findIdx? (· == key) = none := by
    rw [List.findIdx?_eq_none_iff]
    intro x hx
    obtain ⟨i, hi, rfl⟩ := List.getElem_of_mem hx
    have := hn i hi
    rw [nth_eq ks hi] at this
    simpa using this
  simp [whichAt, this]

set_option maxRecDepth 100000 in
set_option maxHeartbeats 4000000 in
theorem term_switch {rb B : Nat} {inp : List Int} {fuel n : Nat} (hok : TermOk rb B inp fuel n) {s : St} {m : Mem} {W : World} (hg : Good rb B inp fuel s m W) {t : Core} {v : Array Value} (hin : CoreIn B W t v) (hwt : WT t) {e : PEnv} {ge : Value} (he : EnvIn rb m W e ge) (hn : s.left < n + 1) (h0 : 0 < s.left) (hk : t.k = 9) :
    Calls Tryd.prog 26 #[.pointer (some ⟨rb, 0, none⟩), .agg v, ge] W (EvPost rb B inp fuel m W (bodyP inp (ev inp n) t e { s with left := s.left - 1 })) := by
  obtain ⟨hb, hg3, hT⟩ := frame_at hg hin he
  have hrbl := hg.mutLt (k := rb) (.inl rfl)
  obtain ⟨k0, n0, ks, cs, Ak, ck, Ac, cc, b, o, G0, G1, G2, G3, rfl, rfl, hks, hck, hcc, hK⟩ := hin.open_
  simp only [Core.k] at hk
  subst hk
  obtain ⟨pk, rfl⟩ := he.shape
  obtain ⟨Ai, ci, hr, _⟩ := hg3.run
  have hfu := hg.fuelB
  have hle := hg.left
  have hbn := hg.bnd
  obtain ⟨st, hst⟩ : ∃ st : Int, st = (fuel : Int) - s.left := ⟨_, rfl⟩
  have hst0 : 0 ≤ st := by omega
  have hst1 : st < (fuel : Int) := by omega
  have hst2 : st ≤ 1000000 := by omega
  have r1 : (frameW W rb #[.int .i64 9, .int .i64 n0, .slice Ak ks.length ck, .slice Ac cs.length cc] (.pointer pk)).cell? ⟨rb, 1, none⟩ = some (.int .i64 fuel) := by simp [World.cell?, hr]
  have r5 : (frameW W rb #[.int .i64 9, .int .i64 n0, .slice Ak ks.length ck, .slice Ac cs.length cc] (.pointer pk)).cell? ⟨rb, 5, none⟩ = some (.int .i64 st) := by simp [World.cell?, hr, hst]
  have f5 : (frameW W rb #[.int .i64 9, .int .i64 n0, .slice Ak ks.length ck, .slice Ac cs.length cc] (.pointer pk)).frozen? ⟨rb, 5, none⟩ = false := by simp [World.frozen?, hr]
  have b0 := at_cell0 hT.r (i := 0) rfl
  simp only [List.getElem_toArray, List.getElem_cons_zero] at b0
  have hX : ∀ nq : Nat, Good rb B inp fuel { s with left := s.left - 1 } m (((frameW W rb #[.int .i64 9, .int .i64 n0, .slice Ak ks.length ck, .slice Ac cs.length cc] (.pointer pk)).drewN nq).setCell ⟨rb, 5, none⟩ (.int .i64 (st + 1))) ∧
      Evo rb m m W (((frameW W rb #[.int .i64 9, .int .i64 n0, .slice Ak ks.length ck, .slice Ac cs.length cc] (.pointer pk)).drewN nq).setCell ⟨rb, 5, none⟩ (.int .i64 (st + 1))) ∧
      TermAt rb B m (((frameW W rb #[.int .i64 9, .int .i64 n0, .slice Ak ks.length ck, .slice Ac cs.length cc] (.pointer pk)).drewN nq).setCell ⟨rb, 5, none⟩ (.int .i64 (st + 1))) (.mk 9 n0 ks cs) #[.int .i64 9, .int .i64 n0, .slice Ak ks.length ck, .slice Ac cs.length cc] e (.pointer pk) W.heap.size := by
    intro nq
    have hkd : Evo rb m m (frameW W rb #[.int .i64 9, .int .i64 n0, .slice Ak ks.length ck, .slice Ac cs.length cc] (.pointer pk)) ((frameW W rb #[.int .i64 9, .int .i64 n0, .slice Ak ks.length ck, .slice Ac cs.length cc] (.pointer pk)).drewN nq) := Evo.below (below_drewN (Below.refl _ _) _)
    obtain ⟨q1, q2⟩ := (hg3.below (below_drewN (Below.refl _ _) nq)).step h0
    rw [← hst] at q1 q2
    exact ⟨q1, ((Evo.below hb).trans hkd).trans q2, hT.evo hg3 (hkd.trans q2)⟩
  have x0 := fun nq => (fun (hx : TermAt rb B m (((frameW W rb #[.int .i64 9, .int .i64 n0, .slice Ak ks.length ck, .slice Ac cs.length cc] (.pointer pk)).drewN nq).setCell ⟨rb, 5, none⟩ (.int .i64 (st + 1))) (.mk 9 n0 ks cs) #[.int .i64 9, .int .i64 n0, .slice Ak ks.length ck, .slice Ac cs.length cc] e (.pointer pk) W.heap.size) =>
    (show _ ∧ _ ∧ _ ∧ _ ∧ _ ∧ _ from ⟨at_cell0 hx.r (i := 0) rfl, at_cell0 hx.c (i := 0) rfl, at_cell0 hx.c (i := 1) rfl, at_cell0 hx.c (i := 2) rfl, at_cell0 hx.c (i := 3) rfl, at_cell0 hx.k (i := 0) rfl⟩)) (hX nq).2.2
  have y0 := fun nq => (x0 nq).1
  have y10 := fun nq => (x0 nq).2.1
  have y11 := fun nq => (x0 nq).2.2.1
  have y12 := fun nq => (x0 nq).2.2.2.1
  have y13 := fun nq => (x0 nq).2.2.2.2.1
  have y20 := fun nq => (x0 nq).2.2.2.2.2
  simp only [List.getElem_toArray, List.getElem_cons_zero, List.getElem_cons_succ] at y0 y10 y11 y12 y13 y20
  have HX := Lib.hid hX
  have HST := Lib.hid (fun (m' : Mem) (V' : World) (h : Evo rb m m' W V') => hg.stay h)
  have hWT := Lib.hid hwt
  have HOK := Lib.hid hok
  have hn' : s.left - 1 < n := by omega
  have HLT := Lib.hid (show s.out.length + (s.left - 1) < fuel by omega)
  obtain ⟨out, hout⟩ : ∃ out, bodyP inp (ev inp n) (.mk 9 n0 ks cs) e { s with left := s.left - 1 } = out := ⟨_, rfl⟩
  rw [hout]
  have HO := Lib.hid hout
  unfold frameW at r1 r5 f5 b0 y0 y10 y11 y12 y13 y20 HX
  clear hb hg hg3 hT hin he hr hX x0 hst hok hwt hn h0 hle hbn hout
  have hcl : cs.length = ks.length + 2 := by
    have h1 := hWT.out.node.2.2.2.1
    simp only [Core.k, Core.ks, Core.cs, Core.n, cntB] at h1
    rw [if_neg (by decide), if_pos trivial] at h1
    exact of_decide_eq_true h1
  have hp0 : 0 < cs.length := by omega
  have hpi0 : (0 : Int) < (cs.length : Int) := by omega
  have HCL := Lib.hid hcl
  have hks64 := hks.1
  have HKS := Lib.hid hks
  clear hcl hks
  go_enter Tryd.func26, Tryd.ntmps26
  go_wp2_with fail
  go_quiet (fail)
  go_wp2_with fail
  obtain ⟨gX, eX, tX⟩ := HX.out nq
  have z0 := y0 nq
  have z10 := y10 nq
  have z11 := y11 nq
  have z12 := y12 nq
  have z13 := y13 nq
  have z20 := y20 nq
  clear y0 y10 y11 y12 y13 y20 r1 r5 f5 b0 HX
  generalize (((((W.alloc (.cells #[.pointer (some ⟨rb, 0, none⟩)] 49)).alloc (.cells #[.int .i64 9, .int .i64 n0, .slice Ak ks.length ck, .slice Ac cs.length cc] 26)).alloc (.cells #[.pointer pk] 83)).drewN nq).setCell ⟨rb, 5, none⟩ (.int .i64 (st + 1))) = V at *
  have HKid := Lib.hid (fun (i : Nat) (hi : i < cs.length) (s' : St) (m' : Mem) (V' : World) (hE : Evo rb m m' V V') (hg' : Good rb B inp fuel s' m' V') (hn1 : s'.left < n) => (show Calls Tryd.prog 38 #[.int .i64 (i : Int), .pointer (some ⟨W.heap.size, 0, none⟩), .pointer (some ⟨W.heap.size + 1, 0, none⟩), .pointer (some ⟨W.heap.size + 1 + 1, 0, none⟩)] V' (EvPost rb B inp fuel m' V' (ev inp n cs[i] e s')) from
     kid_term HOK.out hg' (tX.evo gX hE) hWT.out hi hn1))
  have hO1 := HO.out.symm.trans (show _ = Out.andThen (ev inp n cs[0] e { s with left := s.left - 1 }) (fun v s => (match keyOf v with | some key => ev inp n (cs[1 + whichAt ks key]?.getD default) e s | none => (.stuck, s) : Out)) from by simp [bodyP, Core.k, Core.n, Core.cs, Core.ks, hp0]; rfl)
  have C0 := Lib.hid ((HKid.out 0 hp0 _ m V (Evo.refl _ _ _) gX hn').mono fun en V1 h => kidEnds h eX hO1)
  have HO1 := Lib.hid hO1
  clear hO1
  have hle := (ev_le inp n cs[0] e { s with left := s.left - 1 }).left
  have HS := Lib.hid (fun (V' : World) (m' : Mem) (hE : Evo rb m m' V V') => (show V'.cell? ⟨W.heap.size + 1, 2, none⟩ = some (.slice Ak ks.length ck) from at_cell0 (tX.c.evo hE) rfl))
  refine C0.out.mono ?_
  rintro en V1 (⟨v, s2, m2, T, x, hO, rfl, hk1, hg1, hv⟩ | ⟨ch, rfl, _, hP⟩)
  rotate_left
  · exact ⟨rfl, hP⟩
  have zz := HS.out _ _ hk1
  have hO2 := HO1.out
  rw [hO] at hO2 hle
  have hE1 := Lib.hid (eX.trans hk1)
  have HKEY := Lib.hid (key_any hv)
  cases hky : keyOf v with
  | none =>
    have he : out = (.stuck, s2) := by
      have : out = (match keyOf v with | some key => ev inp n (cs[1 + whichAt ks key]?.getD default) e s2 | none => (.stuck, s2) : Out) := hO2
      rw [hky] at this; exact this
    have HN := Lib.hid (show EvPost rb B inp fuel m W out (.panicked (stopV 4)) V1 from by rw [he]; exact EvPost.stuck hE1.out hg1 (thrown_one _ _))
    have HK2 := Lib.hid (HKEY.out.mono (R' := fun e w' => e = .panicked (stopV 4) ∧ V1 = w') (by
      rintro e w' (⟨n, hn, rfl, rfl⟩ | ⟨hn, rfl, rfl⟩)
      · rw [hky] at hn; cases hn
      · exact ⟨rfl, rfl⟩))
    clear hO2 he hO hk1 hg1 hv gX eX tX HKid C0 hky hle
    go_wp2_with (go_at_call 37; refine HK2.out.mono ?_; rintro e w' ⟨rfl, rfl⟩)
    exact ⟨rfl, HN.out⟩
  | some key =>
    have he : out = ev inp n (cs[1 + whichAt ks key]?.getD default) e s2 := by
      have : out = (match keyOf v with | some key => ev inp n (cs[1 + whichAt ks key]?.getD default) e s2 | none => (.stuck, s2) : Out) := hO2
      rw [hky] at this; exact this
    have HK2 := Lib.hid (HKEY.out.mono (R' := fun e w' => e = .returned (.int .i64 key) ∧ V1 = w') (by
      rintro e w' (⟨n, hn, rfl, rfl⟩ | ⟨hn, rfl, rfl⟩)
      · rw [hky] at hn; cases hn; exact ⟨rfl, rfl⟩
      · rw [hky] at hn; cases hn))
    have HL := Lib.hid (fun (i : Nat) (hi : i < cs.length) (h : whichAt ks key + 1 = i) => (show Calls Tryd.prog 38 #[.int .i64 (i : Int), .pointer (some ⟨W.heap.size, 0, none⟩), .pointer (some ⟨W.heap.size + 1, 0, none⟩), .pointer (some ⟨W.heap.size + 1 + 1, 0, none⟩)] V1 (LastEnds rb B inp fuel m2 V1 m W out) from
      (HKid.out i hi s2 m2 V1 hk1 hg1 (Nat.lt_of_le_of_lt hle hn')).mono fun en V2 hh => by
        have h2 : out = ev inp n cs[i] e s2 := by
          rw [he, show 1 + whichAt ks key = i by omega]; simp [hi]
        rw [h2]; exact lastEnds hh hE1.out))
    have HC := Lib.hid (fun (j : Nat) (hj : j < ks.length) => (show ∃ b o, Ak = some ⟨b, o, none⟩ ∧ V1.cell? ⟨b, o + j, none⟩ = some (.int .i64 (nth ks j)) from by
      obtain ⟨b, o, h1, h2, h3⟩ := HKS.out.at_ (by omega)
      exact ⟨b, o, h1, HST.out _ _ hE1.out _ _ _ h2 (h3 j hj)⟩))
    clear hO2 he hO hk1 hg1 hv gX eX tX HKid C0 hky hle
    go_wp2_with (go_at_call 37; refine HK2.out.mono ?_; rintro e w' ⟨rfl, rfl⟩)
    go_loopw [148] (fun i wr => ∃ (j : Nat), j ≤ ks.length ∧ i = .int .i64 (j : Int) ∧ V1 = wr ∧ Hid (∀ i, i < j → nth ks i ≠ key)) (fun i _ => ks.length + 1 - (intOf i).toNat)
    case atStart => exact ⟨0, by omega, rfl, rfl, Lib.hid (by intro i hi; omega)⟩
    case round =>
      obtain ⟨j, hj, rfl, rfl, hno⟩ := hrel
      by_cases hlt : j < ks.length
      · obtain ⟨kb, ko, rfl, hkc⟩ := HC.out j hlt
        have hj0 : (0 : Int) ≤ (j : Int) := by omega
        have hjl : (j : Int) < (ks.length : Int) := by omega
        by_cases hxk : nth ks j = key
        · have hxk' : (nth ks j == key) = true := by simpa using hxk
          have HW := Lib.hid (whichAt_found hlt hxk hno.out)
          have HLL := Lib.hid (show Calls Tryd.prog 38 #[.int .i64 (2 + (j : Int)), .pointer (some ⟨W.heap.size, 0, none⟩), .pointer (some ⟨W.heap.size + 1, 0, none⟩), .pointer (some ⟨W.heap.size + 1 + 1, 0, none⟩)] V1 (LastEnds rb B inp fuel m2 V1 m W out) from by
            have := HL.out (2 + j) (by have := HCL.out; omega) (by have := HW.out; omega)
            rwa [show ((2 + j : Nat) : Int) = 2 + (j : Int) by omega] at this)
          clear hxk
          go_wp2_with (go_at_call 38; refine HLL.out.mono ?_; rintro en w' ⟨⟨g, rfl⟩ | ⟨ch, rfl⟩, ⟨m4, hk4⟩, hP⟩; rotate_left; exact ⟨rfl, hP⟩)
          all_goals (go_ret; exact hP)
        · have hxk' : (nth ks j == key) = false := by simpa using hxk
          have hno' : Hid (∀ i, i < j + 1 → nth ks i ≠ key) := Lib.hid (fun i hi => by
            by_cases h : i = j
            · subst h; exact hxk
            · exact hno.out i (by omega))
          clear hxk
          go_wp2_with fail
          go_roundw
          case rel => exact ⟨j + 1, by omega, by go_num, trivial, hno'⟩
          case measure => simp [intOf]; omega
      · have hjn : j = ks.length := by omega
        have HW := Lib.hid (whichAt_none (fun i hi => hno.out i (by omega)))
        have hjl : ¬ (j : Int) < (ks.length : Int) := by omega
        have HLL := Lib.hid (show Calls Tryd.prog 38 #[.int .i64 1, .pointer (some ⟨W.heap.size, 0, none⟩), .pointer (some ⟨W.heap.size + 1, 0, none⟩), .pointer (some ⟨W.heap.size + 1 + 1, 0, none⟩)] V1 (LastEnds rb B inp fuel m2 V1 m W out) from
          HL.out 1 (by have := HCL.out; omega) (by have := HW.out; omega))
        subst hjn
        go_wp2_with (go_at_call 38; refine HLL.out.mono ?_; rintro en w' ⟨⟨g, rfl⟩ | ⟨ch, rfl⟩, ⟨m4, hk4⟩, hP⟩; rotate_left; exact ⟨rfl, hP⟩)
        all_goals (go_ret; exact hP)
end Go.Proofs.YtnolhcdfknjncaaDoor

/-
  The program's evaluator: a row of values that a frame fills.
-/
set_option linter.unusedVariables false
set_option linter.unusedSimpArgs false
namespace Go.Proofs.YtnolhcdfknjncaaDoor
open Go.RowKit

/-- a step in which nothing turns but a row that a frame fills -/
structure PrivStep (rb : Nat) (m m' : Mem) (W W' : World) (row : Option Nat) : Prop where
  grow : W.grownBy W' row
  rowP : ∀ k, row = some k → k ∈ m.priv
  fa : m'.fa = m.fa
  ca : m'.ca = m.ca
  vo : m'.vo = m.vo
  priv : ∀ k ∈ m'.priv, k ∈ m.priv ∨ W.heap.size ≤ k
section
variable {rb B : Nat} {inp : List Int} {fuel : Nat} {s : St} {m m' : Mem} {W W' : World} {row : Option Nat}
theorem PrivStep.mut (h : PrivStep rb m m' W W' row) (k : Nat) : m'.mut rb k ↔ m.mut rb k := by unfold Mem.mut; rw [h.ca, h.vo]
theorem PrivStep.same (h : PrivStep rb m m' W W' row) {k : Nat} (hk : k < W.heap.size) (hn : ¬ m.apart rb k) : W'.heap[k]? = W.heap[k]? := h.grow.block k hk (fun e => hn (.inr (h.rowP k e.symm)))
theorem PrivStep.apart (h : PrivStep rb m m' W W' row) {k : Nat} (hk : k < W.heap.size) (hn : ¬ m.apart rb k) : ¬ m'.apart rb k := fun hb => by
  rcases hb with hb | hb
  · exact hn (.inl ((h.mut k).1 hb))
  · rcases h.priv k hb with hb | hb
    · exact hn (.inr hb)
    · omega
theorem At.step {b : Nat} {o : Obj} (ha : At rb m W b o) (h : PrivStep rb m m' W W' row) : At rb m' W' b o :=
  have hlt := (Array.getElem?_eq_some_iff.1 ha.1).1
  ⟨(h.same hlt ha.2).trans ha.1, h.apart hlt ha.2⟩
theorem RepV.step (h : PrivStep rb m m' W W' row) {v : PV} {g : Value} (hv : RepV rb m W v g) : RepV rb m' W' v g := by
  induction hv with
  | int n => exact .int n
  | blk hb hg hgm hl h8 hc _ ih => exact .blk (hb.step h) (Nat.lt_of_lt_of_le hg h.grow.size) (h.apart hg hgm) hl h8 (fun j hj => (cell_of_heap (h.same hg hgm) j).trans (hc j hj)) ih
  | fn hh => exact .fn (by rw [h.fa]; exact hh)
  | ref hh => exact .ref (by rw [h.ca]; exact hh)
theorem EnvIn.step (h : PrivStep rb m m' W W' row) {e : PEnv} {g : Value} (he : EnvIn rb m W e g) : EnvIn rb m' W' e g := by
  induction he with
  | nil => exact .nil
  | cons hb hv _ ih => exact .cons (hb.step h) (hv.step h) ih
theorem Good.stayP (hg : Good rb B inp fuel s m W) (h : PrivStep rb m m' W W' row) : Stay B W W' := fun b o v hb hc =>
  (cell_of_heap (h.grow.block b (by have := hg.Bs; omega) (fun e => by have := (hg.priv b (h.rowP b e.symm)).1; omega)) o).trans hc
theorem Good.step_ (hg : Good rb B inp fuel s m W) (h : PrivStep rb m m' W W' row) (hlt : ∀ k ∈ m'.priv, k < W'.heap.size) : Good rb B inp fuel s m' W' := by
  have hst := hg.stayP h
  have hnr : ∀ k, m.mut rb k → row ≠ some k := fun k hk e => (hg.priv k (h.rowP k e)).2.2 hk
  have hmut : ∀ k, m.mut rb k → W'.heap[k]? = W.heap[k]? := fun k hk => h.grow.block k (hg.mutLt hk) (fun e => hnr k hk e.symm)
  obtain ⟨Ai, ci, hr, hi, hci⟩ := hg.run
  refine ⟨Nat.le_trans hg.Bs h.grow.size, hg.rbB, hg.left, hg.fuelB, hg.bnd, ⟨Ai, ci, ?_, hi.stay hst, hci⟩, ?_, by rw [h.fa]; exact hg.falen, ?_, by rw [h.ca]; exact hg.calen, ?_, by rw [h.ca]; exact hg.nodup, by rw [h.ca]; exact hg.rbca, by rw [h.vo]; exact hg.rbo, by rw [h.ca, h.vo]; exact hg.oca, by rw [h.ca]; exact hg.caB, ?_⟩
  · rw [h.vo, hmut rb (.inl rfl)]; exact hr
  · rw [h.vo]
    refine hg.out.kept h.grow ?_
    cases ho : m.vo.ownBlock with
    | none => exact .inl rfl
    | some k => exact .inr fun e => hnr k (.inr (.inl ho)) e.symm
  · intro i hi
    obtain ⟨b, c0, c1, c2, c3, kp, h1, h2, h3, h4, h5⟩ := hg.fns i hi
    exact ⟨b, c0, c1, c2, c3, kp, by rw [h.fa]; exact h1, h2.step h, h3.stay hst, h4, h5.step h⟩
  · intro i hi
    obtain ⟨b, gv, h1, h2, h3⟩ := hg.cells i hi
    exact ⟨b, gv, by rw [h.ca]; exact h1, (hmut b (.inr (.inr (List.mem_of_getElem? h1)))).trans h2, h3.step h⟩
  · intro k hk
    refine ⟨?_, hlt k hk, fun hm => ?_⟩
    · rcases h.priv k hk with hp | hp
      · exact (hg.priv k hp).1
      · have := hg.Bs; omega
    · have hm' := (h.mut k).1 hm
      rcases h.priv k hk with hp | hp
      · exact (hg.priv k hp).2.2 hm'
      · have := hg.mutLt hm'; omega
theorem TermAt.step {t : Core} {v : Array Value} {e : PEnv} {ge : Value} {b0 : Nat} (ht : TermAt rb B m W t v e ge b0) (hg : Good rb B inp fuel s m W) (h : PrivStep rb m m' W W' row) : TermAt rb B m' W' t v e ge b0 :=
  ⟨ht.r.step h, ht.c.step h, ht.k.step h, ht.core.stay (hg.stayP h), ht.env.step h⟩
end

theorem ownsRow_same {w w' : World} {base : Nat} {e : TypeId} {size : Nat} {v : Value} {n : Nat} {xs : List Value} (h : w.ownsRow base e size v n xs) (hk : ∀ k, v.ownBlock = some k → w'.heap[k]? = w.heap[k]?) : w'.ownsRow base e size v n xs := by
  refine ⟨h.1, ?_⟩
  rcases h.2 with h0 | ⟨g, cap, cur, rfl, h1, h2, h3⟩
  · exact .inl h0
  · exact .inr ⟨g, cap, cur, rfl, h1, (hk g rfl).trans h2, h3⟩

/-- a row that is being filled -/
structure RowIn (rb B : Nat) (inp : List Int) (fuel : Nat) (t : Core) (v : Array Value) (e : PEnv) (ge : Value) (b0 : Nat) (s1 : St) (m0 : Mem) (V : World) (j : Nat) (acc : List PV) (s' : St) (mj : Mem) (wr : World) (rv : Value) (Fs : List Value) : Prop where
  good : Good rb B inp fuel s' mj wr
  tm : TermAt rb B mj wr t v e ge b0
  evo : Evo rb m0 { mj with priv := m0.priv } V wr
  priv : mj.priv = rv.ownBlock.toList ++ m0.priv
  len : acc.length = j
  row : wr.ownsRow V.heap.size 54 1 rv j Fs
  rep : ∀ i (h : i < acc.length), ∃ F, Fs[i]? = some F ∧ RepV rb mj wr acc[i] F
  le : Le s1 s'
section
variable {rb B : Nat} {inp : List Int} {fuel : Nat} {t : Core} {v : Array Value} {e : PEnv} {ge : Value} {b0 : Nat} {s1 : St} {m0 : Mem} {V : World} {j : Nat} {acc : List PV} {s' : St} {mj : Mem} {wr : World} {rv : Value} {Fs : List Value}
theorem Evo.repriv {m m' : Mem} {W W' : World} (h : Evo rb m m' W W') (p : List Nat) : Evo rb { m with priv := p } { m' with priv := p } W W' := ⟨h.os, h.tape, h.output, h.size, h.same, h.fresh, h.fa, h.ca, rfl⟩
theorem RowIn.start (hg : Good rb B inp fuel s1 m0 V) (ht : TermAt rb B m0 V t v e ge b0) : RowIn rb B inp fuel t v e ge b0 s1 m0 V 0 [] s1 m0 V (.slice none 0 0) [] :=
  ⟨hg, ht, Evo.refl _ _ _, rfl, rfl, ⟨by simp, .inl ⟨rfl, rfl⟩⟩, by intro i h; simp at h, Le.refl _ _⟩
/-- the frame gives the row up -/
theorem priv_back {m2 : Mem} {W2 : World} {p : List Nat} (hp : m2.priv = p ++ m0.priv) : PrivStep rb m2 { m2 with priv := m0.priv } W2 W2 none :=
  ⟨⟨rfl, rfl, rfl, Nat.le_refl _, fun _ _ _ => rfl⟩, (by intro k h; cases h), rfl, rfl, rfl, fun k hk => .inl (by rw [hp]; exact List.mem_append.2 (.inr hk))⟩
theorem RowIn.back (h : RowIn rb B inp fuel t v e ge b0 s1 m0 V j acc s' mj wr rv Fs) (hg0 : Good rb B inp fuel s1 m0 V) {o : Out} {en : Ending} {W2 : World} (hp : EvPost rb B inp fuel mj wr o en W2) : EvPost rb B inp fuel m0 V o en W2 := by
  have key : ∀ (m2 : Mem) (s2 : St), Evo rb mj m2 wr W2 → Good rb B inp fuel s2 m2 W2 → Evo rb m0 { m2 with priv := m0.priv } V W2 ∧ Good rb B inp fuel s2 { m2 with priv := m0.priv } W2 ∧ PrivStep rb m2 { m2 with priv := m0.priv } W2 W2 none := fun m2 s2 hk hg => by
    have hpr := priv_back (rb := rb) (m0 := m0) (W2 := W2) (m2 := m2) (hk.priv.trans h.priv)
    exact ⟨h.evo.trans (hk.repriv m0.priv), hg.step_ hpr (fun k hk' => Nat.lt_of_lt_of_le (hg0.priv k hk').2.1 (Nat.le_trans h.evo.size hk.size)), hpr⟩
  cases hp with
  | val h1 h2 h3 => obtain ⟨q1, q2, q3⟩ := key _ _ h1 h2; exact .val q1 q2 (h3.step q3)
  | raised h1 h2 h3 h4 h5 => obtain ⟨q1, q2, q3⟩ := key _ _ h1 h2; exact .raised q1 q2 (h3.step q3) h4 h5
  | stuck h1 h2 h3 => obtain ⟨q1, q2, q3⟩ := key _ _ h1 h2; exact .stuck q1 q2 h3
  | cut h1 h2 h3 => obtain ⟨q1, q2, q3⟩ := key _ _ h1 h2; exact .cut q1 q2 h3
/-- one more value -/
theorem RowIn.more (h : RowIn rb B inp fuel t v e ge b0 s1 m0 V j acc s' mj wr rv Fs) (hg0 : Good rb B inp fuel s1 m0 V) {s2 : St} {m2 : Mem} {V2 : World} {a : PV} {T : TypeId} {x : Value} (hk : Evo rb mj m2 wr V2) (hg2 : Good rb B inp fuel s2 m2 V2) (ha : RepV rb m2 V2 a (.iface T x)) (hle : Le s' s2)
    {o : Obj} {w1 : World} {rv' : Value} (hown : w1.ownsRow V.heap.size 54 1 rv' (j + 1) (Fs ++ [.iface T x])) (hgrow : (V2.alloc o).grownBy w1 rv.ownBlock) (hat : rv'.ownBlock = rv.ownBlock ∨ rv'.ownBlock = some (V2.alloc o).heap.size) :
    RowIn rb B inp fuel t v e ge b0 s1 m0 V (j + 1) (acc ++ [a]) s2 { m2 with priv := rv'.ownBlock.toList ++ m0.priv } w1 rv' (Fs ++ [.iface T x]) := by
  have hpr : m2.priv = rv.ownBlock.toList ++ m0.priv := hk.priv.trans h.priv
  have ha0 : Below V2.heap.size V2 (V2.alloc o) := (Below.refl _ _).alloc (Nat.le_refl _) _
  have hgr : V2.grownBy w1 rv.ownBlock := ⟨hgrow.os.trans ha0.os, hgrow.tape.trans ha0.tape, hgrow.output.trans ha0.output, Nat.le_trans ha0.size hgrow.size, fun k hk hne => (hgrow.block k (Nat.lt_of_lt_of_le hk ha0.size) hne).trans (ha0.block k hk)⟩
  have hs : PrivStep rb m2 { m2 with priv := rv'.ownBlock.toList ++ m0.priv } V2 w1 rv.ownBlock := by
    refine ⟨hgr, fun k hk => by rw [hpr]; simp [hk], rfl, rfl, rfl, fun k hk => ?_⟩
    rcases List.mem_append.1 hk with hk | hk
    · rcases hat with hat | hat
      · exact .inl (by rw [hpr]; exact List.mem_append.2 (.inl (hat ▸ hk)))
      · rw [hat] at hk; simp at hk; exact .inr (by omega)
    · exact .inl (by rw [hpr]; exact List.mem_append.2 (.inr hk))
  refine ⟨hg2.step_ hs (fun k hkp => ?_), (h.tm.evo h.good hk).step hg2 hs, ?_, rfl, by simp [h.len], hown, ?_, (h.le.trans hle)⟩
  · rcases List.mem_append.1 hkp with hk' | hk'
    · exact (hown.lt k (by simpa using hk')).2
    · exact Nat.lt_of_lt_of_le (hg0.priv k hk').2.1 (Nat.le_trans (Nat.le_trans h.evo.size hk.size) hgr.size)
  · have e2 := h.evo.trans (hk.repriv m0.priv)
    refine ⟨hgr.os.trans e2.os, hgr.tape.trans e2.tape, hgr.output.trans e2.output, Nat.le_trans e2.size hgr.size, fun k hk' hm => ?_, e2.fresh, e2.fa, e2.ca, rfl⟩
    refine (hgr.block k (Nat.lt_of_lt_of_le hk' e2.size) (fun e => ?_)).trans (e2.same k hk' hm)
    have := (h.row.lt k e.symm).1
    omega
  · intro i hi
    have hFl : Fs.length = acc.length := by have := h.row.1; have := h.len; omega
    by_cases hia : i < acc.length
    · obtain ⟨F, h1, h2⟩ := h.rep i hia
      refine ⟨F, by rw [List.getElem?_append_left (by omega)]; exact h1, ?_⟩
      rw [List.getElem_append_left hia]
      exact (h2.evo hk).step hs
    · have : i = acc.length := by simp at hi; omega
      subst this
      refine ⟨.iface T x, by rw [List.getElem?_append_right (by omega)]; simp [hFl], ?_⟩
      simpa using ha.step hs
/-- the row is whole -/
theorem RowIn.whole (h : RowIn rb B inp fuel t v e ge b0 s1 m0 V j acc s' mj wr rv Fs) (hg0 : Good rb B inp fuel s1 m0 V) (hj : 0 < j) :
    ∃ g cap F, rv = .slice (some ⟨g, 0, none⟩) acc.length cap ∧ acc.length ≤ cap ∧ Good rb B inp fuel s' { mj with priv := m0.priv } wr ∧ ArgsIn rb { mj with priv := m0.priv } wr acc g cap F ∧ ¬ ({ mj with priv := m0.priv } : Mem).apart rb g := by
  have hs := priv_back (rb := rb) (m0 := m0) (W2 := wr) h.priv
  have hg := h.good.step_ hs (fun k hk' => Nat.lt_of_lt_of_le (hg0.priv k hk').2.1 h.evo.size)
  rcases h.row.2 with ⟨_, h0⟩ | ⟨g, cap, cur, rfl, hlo, hgg, hn, _, _, htake⟩
  · omega
  · have hgp := h.good.priv g (by rw [h.priv]; simp [Value.ownBlock])
    have hap : ¬ ({ mj with priv := m0.priv } : Mem).apart rb g := fun ha => by
      rcases ha with ha | ha
      · exact hgp.2.2 ha
      · have := (hg0.priv g ha).2.1; omega
    refine ⟨g, cap, fun i => Fs[i]?.getD .nilIface, by rw [h.len], by rw [h.len]; exact hn, hg, ⟨hgp.2.1, fun hm => hgp.2.2 hm, fun i hi => ?_, fun i hi => ?_⟩, hap⟩
    · obtain ⟨F, h1, h2⟩ := h.rep i hi
      have := World.ownsRow.cells h.row (g := g) rfl i F h1
      have ha : (⟨g, 0, none⟩ : Addr).add i = ⟨g, i, none⟩ := by unfold Addr.add; split <;> simp_all
      rw [ha] at this
      simpa [h1] using this
    · obtain ⟨F, h1, h2⟩ := h.rep i hi
      simpa [h1] using h2.step hs
end
end Go.Proofs.YtnolhcdfknjncaaDoor

/-
  The program's evaluator: blocks, primitives.
-/
set_option linter.unusedVariables false
set_option linter.unusedSimpArgs false
namespace Go.Proofs.YtnolhcdfknjncaaDoor
open Go.RowKit

/-- behind the values of the Kids -/
def rowP (inp : List Int) (rec : Core → PEnv → St → Out) (k n : Int) : (Res ⊕ List PV) × St → Out
  | (.inl r, s') => (r, s')
  | (.inr l, s') => if k = 7 then (.val (.blk n l), s') else primP inp rec n l s'
theorem evs_val {rec : Core → PEnv → St → Out} {e : PEnv} {c : Core} {cs : List Core} {acc : List PV} {s s2 : St} {v : PV} (h : rec c e s = (.val v, s2)) : evs rec e (c :: cs) acc s = evs rec e cs (acc ++ [v]) s2 := by
  simp [evs, h]
theorem evs_not {inp : List Int} {rec : Core → PEnv → St → Out} {k n : Int} {e : PEnv} {c : Core} {cs : List Core} {acc : List PV} {s : St} (h : ∀ v s2, rec c e s ≠ (.val v, s2)) : rowP inp rec k n (evs rec e (c :: cs) acc s) = rec c e s := by
  unfold evs
  generalize rec c e s = o at *
  obtain ⟨r, s2⟩ := o
  cases r with
  | val v => exact absurd rfl (h v s2)
  | raised v => rfl
  | stuck => rfl
  | cut => rfl
theorem infoVal : (Tryd.prog.info? 54).map (fun i => (i.zero, i.size, i.bytes)) = some (some .nilIface, 1, 16) := by kernel_rfl
theorem und97 : Tryd.prog.underlying 97 = some (.slice 54) := by kernel_rfl
/-- how a Kid of a row ends -/
def RowKid (rb B : Nat) (inp : List Int) (fuel : Nat) (o : Out) (mj : Mem) (wr : World) (m : Mem) (W : World) (out : Out) (en : Ending) (V : World) : Prop :=
  (∃ v s' m2 T x, o = (.val v, s') ∧ en = .returned (.iface T x) ∧ Evo rb mj m2 wr V ∧ Good rb B inp fuel s' m2 V ∧ RepV rb m2 V v (.iface T x)) ∨ (∃ ch, en = .panicked ch ∧ EvPost rb B inp fuel m W out (.panicked ch) V)

set_option maxRecDepth 100000 in
set_option maxHeartbeats 4000000 in
theorem term_block {rb B : Nat} {inp : List Int} {fuel n : Nat} (hok : TermOk rb B inp fuel n) {s : St} {m : Mem} {W : World} (hg : Good rb B inp fuel s m W) {t : Core} {v : Array Value} (hin : CoreIn B W t v) (hwt : WT t) {e : PEnv} {ge : Value} (he : EnvIn rb m W e ge) (hn : s.left < n + 1) (h0 : 0 < s.left) (hk : t.k = 7) :
    Calls Tryd.prog 26 #[.pointer (some ⟨rb, 0, none⟩), .agg v, ge] W (EvPost rb B inp fuel m W (bodyP inp (ev inp n) t e { s with left := s.left - 1 })) := by
  obtain ⟨hb, hg3, hT⟩ := frame_at hg hin he
  have hrbl := hg.mutLt (k := rb) (.inl rfl)
  obtain ⟨k0, n0, ks, cs, Ak, ck, Ac, cc, b, o, G0, G1, G2, G3, rfl, rfl, hks, hck, hcc, hK⟩ := hin.open_
  simp only [Core.k] at hk
  subst hk
  obtain ⟨pk, rfl⟩ := he.shape
  obtain ⟨Ai, ci, hr, _⟩ := hg3.run
  have hfu := hg.fuelB
  have hle := hg.left
  have hbn := hg.bnd
  obtain ⟨st, hst⟩ : ∃ st : Int, st = (fuel : Int) - s.left := ⟨_, rfl⟩
  have hst0 : 0 ≤ st := by omega
  have hst1 : st < (fuel : Int) := by omega
  have hst2 : st ≤ 1000000 := by omega
  have r1 : (frameW W rb #[.int .i64 7, .int .i64 n0, .slice Ak ks.length ck, .slice Ac cs.length cc] (.pointer pk)).cell? ⟨rb, 1, none⟩ = some (.int .i64 fuel) := by simp [World.cell?, hr]
  have r5 : (frameW W rb #[.int .i64 7, .int .i64 n0, .slice Ak ks.length ck, .slice Ac cs.length cc] (.pointer pk)).cell? ⟨rb, 5, none⟩ = some (.int .i64 st) := by simp [World.cell?, hr, hst]
  have f5 : (frameW W rb #[.int .i64 7, .int .i64 n0, .slice Ak ks.length ck, .slice Ac cs.length cc] (.pointer pk)).frozen? ⟨rb, 5, none⟩ = false := by simp [World.frozen?, hr]
  have b0 := at_cell0 hT.r (i := 0) rfl
  simp only [List.getElem_toArray, List.getElem_cons_zero] at b0
  have hX : ∀ nq : Nat, Good rb B inp fuel { s with left := s.left - 1 } m (((frameW W rb #[.int .i64 7, .int .i64 n0, .slice Ak ks.length ck, .slice Ac cs.length cc] (.pointer pk)).drewN nq).setCell ⟨rb, 5, none⟩ (.int .i64 (st + 1))) ∧
      Evo rb m m W (((frameW W rb #[.int .i64 7, .int .i64 n0, .slice Ak ks.length ck, .slice Ac cs.length cc] (.pointer pk)).drewN nq).setCell ⟨rb, 5, none⟩ (.int .i64 (st + 1))) ∧
      TermAt rb B m (((frameW W rb #[.int .i64 7, .int .i64 n0, .slice Ak ks.length ck, .slice Ac cs.length cc] (.pointer pk)).drewN nq).setCell ⟨rb, 5, none⟩ (.int .i64 (st + 1))) (.mk 7 n0 ks cs) #[.int .i64 7, .int .i64 n0, .slice Ak ks.length ck, .slice Ac cs.length cc] e (.pointer pk) W.heap.size := by
    intro nq
    have hkd : Evo rb m m (frameW W rb #[.int .i64 7, .int .i64 n0, .slice Ak ks.length ck, .slice Ac cs.length cc] (.pointer pk)) ((frameW W rb #[.int .i64 7, .int .i64 n0, .slice Ak ks.length ck, .slice Ac cs.length cc] (.pointer pk)).drewN nq) := Evo.below (below_drewN (Below.refl _ _) _)
    obtain ⟨q1, q2⟩ := (hg3.below (below_drewN (Below.refl _ _) nq)).step h0
    rw [← hst] at q1 q2
    exact ⟨q1, ((Evo.below hb).trans hkd).trans q2, hT.evo hg3 (hkd.trans q2)⟩
  have x0 := fun nq => (fun (hx : TermAt rb B m (((frameW W rb #[.int .i64 7, .int .i64 n0, .slice Ak ks.length ck, .slice Ac cs.length cc] (.pointer pk)).drewN nq).setCell ⟨rb, 5, none⟩ (.int .i64 (st + 1))) (.mk 7 n0 ks cs) #[.int .i64 7, .int .i64 n0, .slice Ak ks.length ck, .slice Ac cs.length cc] e (.pointer pk) W.heap.size) =>
    (show _ ∧ _ ∧ _ ∧ _ ∧ _ ∧ _ from ⟨at_cell0 hx.r (i := 0) rfl, at_cell0 hx.c (i := 0) rfl, at_cell0 hx.c (i := 1) rfl, at_cell0 hx.c (i := 2) rfl, at_cell0 hx.c (i := 3) rfl, at_cell0 hx.k (i := 0) rfl⟩)) (hX nq).2.2
  have y0 := fun nq => (x0 nq).1
  have y10 := fun nq => (x0 nq).2.1
  have y11 := fun nq => (x0 nq).2.2.1
  have y12 := fun nq => (x0 nq).2.2.2.1
  have y13 := fun nq => (x0 nq).2.2.2.2.1
  have y20 := fun nq => (x0 nq).2.2.2.2.2
  simp only [List.getElem_toArray, List.getElem_cons_zero, List.getElem_cons_succ] at y0 y10 y11 y12 y13 y20
  have HX := Lib.hid hX
  have HST := Lib.hid (fun (m' : Mem) (V' : World) (h : Evo rb m m' W V') => hg.stay h)
  have hWT := Lib.hid hwt
  have HOK := Lib.hid hok
  have hn' : s.left - 1 < n := by omega
  have HLT := Lib.hid (show s.out.length + (s.left - 1) < fuel by omega)
  obtain ⟨out, hout⟩ : ∃ out, bodyP inp (ev inp n) (.mk 7 n0 ks cs) e { s with left := s.left - 1 } = out := ⟨_, rfl⟩
  rw [hout]
  have HO := Lib.hid hout
  unfold frameW at r1 r5 f5 b0 y0 y10 y11 y12 y13 y20 HX
  clear hb hg hg3 hT hin he hr hX x0 hst hok hwt hn h0 hle hbn hout
  have hcl : 1 ≤ cs.length ∧ cs.length ≤ 8 := by
    have h1 := hWT.out.node.2.2.2.1
    simp only [Core.k, Core.ks, Core.cs, Core.n, cntB] at h1
    rw [if_neg (by decide), if_neg (by decide), if_pos trivial] at h1
    have := of_decide_eq_true h1
    omega
  have hc64 := hK.hcl
  have hcl0 : cs.length ≤ 3000000000000 := by omega
  have hcp : 0 < cs.length := by omega
  have HCL := Lib.hid hcl
  clear hcl hc64
  obtain ⟨i0, hinf, hz0, hz1, hz2⟩ := info_parts infoVal
  go_enter Tryd.func26, Tryd.ntmps26
  go_wp2_with fail
  go_quiet (fail)
  go_wp2_with fail
  obtain ⟨gX, eX, tX⟩ := HX.out nq
  have z0 := y0 nq
  have z10 := y10 nq
  have z11 := y11 nq
  have z12 := y12 nq
  have z13 := y13 nq
  have z20 := y20 nq
  clear y0 y10 y11 y12 y13 y20 r1 r5 f5 b0 HX
  generalize (((((W.alloc (.cells #[.pointer (some ⟨rb, 0, none⟩)] 49)).alloc (.cells #[.int .i64 7, .int .i64 n0, .slice Ak ks.length ck, .slice Ac cs.length cc] 26)).alloc (.cells #[.pointer pk] 83)).drewN nq).setCell ⟨rb, 5, none⟩ (.int .i64 (st + 1))) = V at *
  have hO0 : out = rowP inp (ev inp n) 7 n0 (evs (ev inp n) e (cs.drop 0) [] { s with left := s.left - 1 }) := HO.out.symm.trans (by
    simp [bodyP, Core.k, Core.n, Core.cs, Core.ks]
    rfl)
  have hO1 := Lib.hid hO0
  clear hO0
  have hR0 := Lib.hid (RowIn.start gX tX)
  have HG := Lib.hid gX
  have HE := Lib.hid eX
  have hsf : s.out.length + (s.left - 1) < fuel := HLT.out
  have HSF := Lib.hid hsf
  clear gX eX tX hsf
  go_loopw [16, 166] (fun rv i wr => ∃ (j : Nat) (acc : List PV) (s' : St) (mj : Mem) (Fs : List Value), j ≤ cs.length ∧ i = .int .i64 (j : Int) ∧ RowIn rb B inp fuel (.mk 7 n0 ks cs) #[.int .i64 7, .int .i64 n0, .slice Ak ks.length ck, .slice Ac cs.length cc] e (.pointer pk) W.heap.size { s with left := s.left - 1 } m V j acc s' mj wr rv Fs ∧ Hid (out = rowP inp (ev inp n) 7 n0 (evs (ev inp n) e (cs.drop j) acc s'))) (fun _ i _ => cs.length + 1 - (intOf i).toNat)
  case atStart => exact ⟨0, [], _, m, [], by omega, rfl, hR0.out, hO1⟩
  case round =>
    obtain ⟨j, acc, s', mj, Fs, hj, rfl, hR, hout⟩ := hrel
    by_cases hlt : j < cs.length
    · have hdrop : cs.drop j = cs[j] :: cs.drop (j + 1) := List.drop_eq_getElem_cons hlt
      have ho := hout.out
      rw [hdrop] at ho
      have hleft : s'.left < n := Nat.lt_of_le_of_lt hR.le.left hn'
      have hev := ev_le inp n cs[j] e s'
      have HC := Lib.hid ((kid_term HOK.out hR.good hR.tm hWT.out hlt hleft).mono fun en V2 hh => (show RowKid rb B inp fuel (ev inp n cs[j] e s') mj wr m W out en V2 from by
        rcases hh.inv with ⟨v, s2, m2, T, x, h1, h2, h3, h4, h5⟩ | ⟨ch, rfl, _, hne, _⟩
        · exact .inl ⟨v, s2, m2, T, x, h1, h2, h3, h4, h5⟩
        · refine .inr ⟨ch, rfl, ?_⟩
          have hne' : ∀ v s2, ev inp n cs[j] e s' ≠ (.val v, s2) := hne
          rw [evs_not hne'] at ho
          rw [ho]
          exact (hR.back HG.out hh).from_ HE.out))
      have hml : j + 1 ≤ maxLen := by unfold maxLen; omega
      have HJ := Lib.hid hj
      have HOUT := Lib.hid ho
      have HLE := Lib.hid hev
      have HOW := Lib.hid (fun (m2 : Mem) (V2 : World) (hk : Evo rb mj m2 wr V2) => (show V2.ownsRow V.heap.size 54 1 u16 j Fs from ownsRow_same hR.row (fun k hk' => by
        have hp := hR.good.priv k (by rw [hR.priv, hk']; simp)
        exact hk.same k hp.2.1 hp.2.2)))
      have HVS := Lib.hid (fun (m2 : Mem) (V2 : World) (hk : Evo rb mj m2 wr V2) (o : Obj) => (show V.heap.size ≤ (V2.alloc o).heap.size from by
        rw [World.size_alloc]; exact Nat.le_succ_of_le (Nat.le_trans hR.evo.size hk.size)))
      have HR := Lib.hid hR
      clear hR ho hev hdrop hleft
      go_wp2_with (first
        | (go_at_call 38; refine HC.out.mono ?_; rintro en w' (⟨a, s2, m2, T, x, hv1, rfl, hk1, hg1, hrv⟩ | ⟨ch, rfl, hP⟩); rotate_left; exact ⟨rfl, hP⟩)
        | (at_builtin; refine wpList_append_own_at _ rfl _ _ 97 rfl V.heap.size 54 i0 .nilIface 1 16 und97 hinf hz0 hz1 hz2 rfl (by decide) _ _ _ rfl ((HOW.out _ _ hk1).alloc _) ⟨w'.heap.size, 0, none⟩ 1 1 [.iface T x] rfl rfl (cell_one_new _ _ _) (by simp [Value.oneCell']) hml (by omega) (HVS.out _ _ hk1 _) ?_; intro v' w1 hown' hgrow _ hat))
      have hgrow' := hgrow
      change World.grownBy _ w1 u16.ownBlock at hgrow'
      have hat' : v'.ownBlock = u16.ownBlock ∨ v'.ownBlock = some (w'.alloc (.cells #[.iface T x] 54)).heap.size := hat
      have hle := HLE.out
      rw [hv1] at hle
      have HM := Lib.hid (HR.out.more HG.out hk1 hg1 hrv hle hown' hgrow' hat')
      have HO2 := Lib.hid (HOUT.out.trans (congrArg _ (evs_val hv1)))
      clear hgrow hgrow' hat hat' hown' hrv hg1 hk1 hv1 hle
      go_roundw
      case rel => exact ⟨j + 1, acc ++ [a], s2, _, Fs ++ [.iface T x], by have := hlt; omega, by go_num, HM.out, HO2⟩
      case measure => simp [intOf]; omega
    · have hjn : j = cs.length := by omega
      subst hjn
      obtain ⟨g, cap, F, rfl, hcap, hgW, hargs, hap⟩ := hR.whole HG.out hcp
      have hal := hR.len
      have ho := hout.out
      rw [List.drop_length] at ho
      have hEW : Evo rb m { mj with priv := m.priv } W wr := HE.out.trans hR.evo
      have y10 := at_cell0 hR.tm.c (i := 0) rfl
      have y11 := at_cell0 hR.tm.c (i := 1) rfl
      have y0 := at_cell0 hR.tm.r (i := 0) rfl
      simp only [List.getElem_toArray, List.getElem_cons_zero, List.getElem_cons_succ] at y0 y10 y11
      have hle := hR.le
      have HLEN := Lib.hid hal
      have he : out = (.val (.blk n0 acc), s') := by rw [ho]; rfl
      have HP := Lib.hid (show EvPost rb B inp fuel m W out (.returned (.iface 95 (.pointer (some ⟨wr.heap.size, 0, none⟩)))) (wr.alloc (.cells #[.int .i64 n0, .slice (some ⟨g, 0, none⟩) acc.length cap] 99)) from by
        have ha : Evo rb { mj with priv := m.priv } { mj with priv := m.priv } wr (wr.alloc (.cells #[.int .i64 n0, .slice (some ⟨g, 0, none⟩) acc.length cap] 99)) := Evo.alloc _ _ _ _
        rw [he]
        refine EvPost.val (hEW.trans ha) (hgW.below ((Below.refl _ _).alloc (Nat.le_refl _) _)) ?_
        have hr : RepV rb { mj with priv := m.priv } (wr.alloc (.cells #[.int .i64 n0, .slice (some ⟨g, 0, none⟩) acc.length cap] 99)) (.blk n0 acc) (.iface 95 (.pointer (some ⟨wr.heap.size, 0, none⟩))) :=
          .blk (at_new (fun k hk => hgW.apartLt hk) _ _) (Nat.lt_of_lt_of_le hargs.lt ha.size) hap hcap (by have := HCL.out; omega) (fun i hi => (cell_of_heap (ha.same g hargs.lt hargs.still) i).trans (hargs.cells i hi)) (fun i hi => (hargs.rep i hi).evo ha)
        exact hr)
      clear hR hgW hargs hap hEW he ho hcap hle hal hout hO1 hR0
      go_wp2_with fail
      go_ret
      exact HP.out

set_option maxRecDepth 100000 in
set_option maxHeartbeats 4000000 in
theorem term_prim {rb B : Nat} {inp : List Int} {fuel n : Nat} (hok : TermOk rb B inp fuel n) {s : St} {m : Mem} {W : World} (hg : Good rb B inp fuel s m W) {t : Core} {v : Array Value} (hin : CoreIn B W t v) (hwt : WT t) {e : PEnv} {ge : Value} (he : EnvIn rb m W e ge) (hn : s.left < n + 1) (h0 : 0 < s.left) (hk : t.k = 10) :
    Calls Tryd.prog 26 #[.pointer (some ⟨rb, 0, none⟩), .agg v, ge] W (EvPost rb B inp fuel m W (bodyP inp (ev inp n) t e { s with left := s.left - 1 })) := by
  obtain ⟨hb, hg3, hT⟩ := frame_at hg hin he
  have hrbl := hg.mutLt (k := rb) (.inl rfl)
  obtain ⟨k0, n0, ks, cs, Ak, ck, Ac, cc, b, o, G0, G1, G2, G3, rfl, rfl, hks, hck, hcc, hK⟩ := hin.open_
  simp only [Core.k] at hk
  subst hk
  obtain ⟨pk, rfl⟩ := he.shape
  obtain ⟨Ai, ci, hr, _⟩ := hg3.run
  have hfu := hg.fuelB
  have hle := hg.left
  have hbn := hg.bnd
  obtain ⟨st, hst⟩ : ∃ st : Int, st = (fuel : Int) - s.left := ⟨_, rfl⟩
  have hst0 : 0 ≤ st := by omega
  have hst1 : st < (fuel : Int) := by omega
  have hst2 : st ≤ 1000000 := by omega
  have r1 : (frameW W rb #[.int .i64 10, .int .i64 n0, .slice Ak ks.length ck, .slice Ac cs.length cc] (.pointer pk)).cell? ⟨rb, 1, none⟩ = some (.int .i64 fuel) := by simp [World.cell?, hr]
  have r5 : (frameW W rb #[.int .i64 10, .int .i64 n0, .slice Ak ks.length ck, .slice Ac cs.length cc] (.pointer pk)).cell? ⟨rb, 5, none⟩ = some (.int .i64 st) := by simp [World.cell?, hr, hst]
  have f5 : (frameW W rb #[.int .i64 10, .int .i64 n0, .slice Ak ks.length ck, .slice Ac cs.length cc] (.pointer pk)).frozen? ⟨rb, 5, none⟩ = false := by simp [World.frozen?, hr]
  have b0 := at_cell0 hT.r (i := 0) rfl
  simp only [List.getElem_toArray, List.getElem_cons_zero] at b0
  have hX : ∀ nq : Nat, Good rb B inp fuel { s with left := s.left - 1 } m (((frameW W rb #[.int .i64 10, .int .i64 n0, .slice Ak ks.length ck, .slice Ac cs.length cc] (.pointer pk)).drewN nq).setCell ⟨rb, 5, none⟩ (.int .i64 (st + 1))) ∧
      Evo rb m m W (((frameW W rb #[.int .i64 10, .int .i64 n0, .slice Ak ks.length ck, .slice Ac cs.length cc] (.pointer pk)).drewN nq).setCell ⟨rb, 5, none⟩ (.int .i64 (st + 1))) ∧
      TermAt rb B m (((frameW W rb #[.int .i64 10, .int .i64 n0, .slice Ak ks.length ck, .slice Ac cs.length cc] (.pointer pk)).drewN nq).setCell ⟨rb, 5, none⟩ (.int .i64 (st + 1))) (.mk 10 n0 ks cs) #[.int .i64 10, .int .i64 n0, .slice Ak ks.length ck, .slice Ac cs.length cc] e (.pointer pk) W.heap.size := by
    intro nq
    have hkd : Evo rb m m (frameW W rb #[.int .i64 10, .int .i64 n0, .slice Ak ks.length ck, .slice Ac cs.length cc] (.pointer pk)) ((frameW W rb #[.int .i64 10, .int .i64 n0, .slice Ak ks.length ck, .slice Ac cs.length cc] (.pointer pk)).drewN nq) := Evo.below (below_drewN (Below.refl _ _) _)
    obtain ⟨q1, q2⟩ := (hg3.below (below_drewN (Below.refl _ _) nq)).step h0
    rw [← hst] at q1 q2
    exact ⟨q1, ((Evo.below hb).trans hkd).trans q2, hT.evo hg3 (hkd.trans q2)⟩
  have x0 := fun nq => (fun (hx : TermAt rb B m (((frameW W rb #[.int .i64 10, .int .i64 n0, .slice Ak ks.length ck, .slice Ac cs.length cc] (.pointer pk)).drewN nq).setCell ⟨rb, 5, none⟩ (.int .i64 (st + 1))) (.mk 10 n0 ks cs) #[.int .i64 10, .int .i64 n0, .slice Ak ks.length ck, .slice Ac cs.length cc] e (.pointer pk) W.heap.size) =>
    (show _ ∧ _ ∧ _ ∧ _ ∧ _ ∧ _ from ⟨at_cell0 hx.r (i := 0) rfl, at_cell0 hx.c (i := 0) rfl, at_cell0 hx.c (i := 1) rfl, at_cell0 hx.c (i := 2) rfl, at_cell0 hx.c (i := 3) rfl, at_cell0 hx.k (i := 0) rfl⟩)) (hX nq).2.2
  have y0 := fun nq => (x0 nq).1
  have y10 := fun nq => (x0 nq).2.1
  have y11 := fun nq => (x0 nq).2.2.1
  have y12 := fun nq => (x0 nq).2.2.2.1
  have y13 := fun nq => (x0 nq).2.2.2.2.1
  have y20 := fun nq => (x0 nq).2.2.2.2.2
  simp only [List.getElem_toArray, List.getElem_cons_zero, List.getElem_cons_succ] at y0 y10 y11 y12 y13 y20
  have HX := Lib.hid hX
  have HST := Lib.hid (fun (m' : Mem) (V' : World) (h : Evo rb m m' W V') => hg.stay h)
  have hWT := Lib.hid hwt
  have HOK := Lib.hid hok
  have hn' : s.left - 1 < n := by omega
  have HLT := Lib.hid (show s.out.length + (s.left - 1) < fuel by omega)
  obtain ⟨out, hout⟩ : ∃ out, bodyP inp (ev inp n) (.mk 10 n0 ks cs) e { s with left := s.left - 1 } = out := ⟨_, rfl⟩
  rw [hout]
  have HO := Lib.hid hout
  unfold frameW at r1 r5 f5 b0 y0 y10 y11 y12 y13 y20 HX
  clear hb hg hg3 hT hin he hr hX x0 hst hok hwt hn h0 hle hbn hout
  have hcl : cs.length = if two n0 then 2 else 1 := by
    have h1 := hWT.out.node.2.2.2.1
    simp only [Core.k, Core.ks, Core.cs, Core.n, cntB] at h1
    rw [if_neg (by decide), if_neg (by decide), if_neg (by decide), if_pos trivial] at h1
    exact (of_decide_eq_true h1).2
  have hcp' : 1 ≤ cs.length ∧ cs.length ≤ 2 := by rw [hcl]; split <;> omega
  have hpr : 1 ≤ n0 ∧ n0 ≤ 16 := by
    have h1 := hWT.out.node.2.2.1
    by_cases hn : 1 ≤ n0 ∧ n0 ≤ 16
    · exact hn
    · simp [Core.k, Core.n, numE, hn] at h1
  have hc64 := hK.hcl
  have hcl0 : cs.length ≤ 3000000000000 := by omega
  have hcp : 0 < cs.length := by omega
  have HCL := Lib.hid hcl
  clear hcl hc64
  obtain ⟨i0, hinf, hz0, hz1, hz2⟩ := info_parts infoVal
  go_enter Tryd.func26, Tryd.ntmps26
  go_wp2_with fail
  go_quiet (fail)
  go_wp2_with fail
  obtain ⟨gX, eX, tX⟩ := HX.out nq
  have z0 := y0 nq
  have z10 := y10 nq
  have z11 := y11 nq
  have z12 := y12 nq
  have z13 := y13 nq
  have z20 := y20 nq
  clear y0 y10 y11 y12 y13 y20 r1 r5 f5 b0 HX
  generalize (((((W.alloc (.cells #[.pointer (some ⟨rb, 0, none⟩)] 49)).alloc (.cells #[.int .i64 10, .int .i64 n0, .slice Ak ks.length ck, .slice Ac cs.length cc] 26)).alloc (.cells #[.pointer pk] 83)).drewN nq).setCell ⟨rb, 5, none⟩ (.int .i64 (st + 1))) = V at *
  have hO0 : out = rowP inp (ev inp n) 10 n0 (evs (ev inp n) e (cs.drop 0) [] { s with left := s.left - 1 }) := HO.out.symm.trans (by
    simp [bodyP, Core.k, Core.n, Core.cs, Core.ks]
    rfl)
  have hO1 := Lib.hid hO0
  clear hO0
  have hR0 := Lib.hid (RowIn.start gX tX)
  have HG := Lib.hid gX
  have HE := Lib.hid eX
  have hsf : s.out.length + (s.left - 1) < fuel := HLT.out
  have HSF := Lib.hid hsf
  clear gX eX tX hsf
  go_loopw [16, 166] (fun rv i wr => ∃ (j : Nat) (acc : List PV) (s' : St) (mj : Mem) (Fs : List Value), j ≤ cs.length ∧ i = .int .i64 (j : Int) ∧ RowIn rb B inp fuel (.mk 10 n0 ks cs) #[.int .i64 10, .int .i64 n0, .slice Ak ks.length ck, .slice Ac cs.length cc] e (.pointer pk) W.heap.size { s with left := s.left - 1 } m V j acc s' mj wr rv Fs ∧ Hid (out = rowP inp (ev inp n) 10 n0 (evs (ev inp n) e (cs.drop j) acc s'))) (fun _ i _ => cs.length + 1 - (intOf i).toNat)
  case atStart => exact ⟨0, [], _, m, [], by omega, rfl, hR0.out, hO1⟩
  case round =>
    obtain ⟨j, acc, s', mj, Fs, hj, rfl, hR, hout⟩ := hrel
    by_cases hlt : j < cs.length
    · have hdrop : cs.drop j = cs[j] :: cs.drop (j + 1) := List.drop_eq_getElem_cons hlt
      have ho := hout.out
      rw [hdrop] at ho
      have hleft : s'.left < n := Nat.lt_of_le_of_lt hR.le.left hn'
      have hev := ev_le inp n cs[j] e s'
      have HC := Lib.hid ((kid_term HOK.out hR.good hR.tm hWT.out hlt hleft).mono fun en V2 hh => (show RowKid rb B inp fuel (ev inp n cs[j] e s') mj wr m W out en V2 from by
        rcases hh.inv with ⟨v, s2, m2, T, x, h1, h2, h3, h4, h5⟩ | ⟨ch, rfl, _, hne, _⟩
        · exact .inl ⟨v, s2, m2, T, x, h1, h2, h3, h4, h5⟩
        · refine .inr ⟨ch, rfl, ?_⟩
          have hne' : ∀ v s2, ev inp n cs[j] e s' ≠ (.val v, s2) := hne
          rw [evs_not hne'] at ho
          rw [ho]
          exact (hR.back HG.out hh).from_ HE.out))
      have hml : j + 1 ≤ maxLen := by unfold maxLen; omega
      have HJ := Lib.hid hj
      have HOUT := Lib.hid ho
      have HLE := Lib.hid hev
      have HOW := Lib.hid (fun (m2 : Mem) (V2 : World) (hk : Evo rb mj m2 wr V2) => (show V2.ownsRow V.heap.size 54 1 u16 j Fs from ownsRow_same hR.row (fun k hk' => by
        have hp := hR.good.priv k (by rw [hR.priv, hk']; simp)
        exact hk.same k hp.2.1 hp.2.2)))
      have HVS := Lib.hid (fun (m2 : Mem) (V2 : World) (hk : Evo rb mj m2 wr V2) (o : Obj) => (show V.heap.size ≤ (V2.alloc o).heap.size from by
        rw [World.size_alloc]; exact Nat.le_succ_of_le (Nat.le_trans hR.evo.size hk.size)))
      have HR := Lib.hid hR
      clear hR ho hev hdrop hleft
      go_wp2_with (first
        | (go_at_call 38; refine HC.out.mono ?_; rintro en w' (⟨a, s2, m2, T, x, hv1, rfl, hk1, hg1, hrv⟩ | ⟨ch, rfl, hP⟩); rotate_left; exact ⟨rfl, hP⟩)
        | (at_builtin; refine wpList_append_own_at _ rfl _ _ 97 rfl V.heap.size 54 i0 .nilIface 1 16 und97 hinf hz0 hz1 hz2 rfl (by decide) _ _ _ rfl ((HOW.out _ _ hk1).alloc _) ⟨w'.heap.size, 0, none⟩ 1 1 [.iface T x] rfl rfl (cell_one_new _ _ _) (by simp [Value.oneCell']) hml (by omega) (HVS.out _ _ hk1 _) ?_; intro v' w1 hown' hgrow _ hat))
      have hgrow' := hgrow
      change World.grownBy _ w1 u16.ownBlock at hgrow'
      have hat' : v'.ownBlock = u16.ownBlock ∨ v'.ownBlock = some (w'.alloc (.cells #[.iface T x] 54)).heap.size := hat
      have hle := HLE.out
      rw [hv1] at hle
      have HM := Lib.hid (HR.out.more HG.out hk1 hg1 hrv hle hown' hgrow' hat')
      have HO2 := Lib.hid (HOUT.out.trans (congrArg _ (evs_val hv1)))
      clear hgrow hgrow' hat hat' hown' hrv hg1 hk1 hv1 hle
      go_roundw
      case rel => exact ⟨j + 1, acc ++ [a], s2, _, Fs ++ [.iface T x], by have := hlt; omega, by go_num, HM.out, HO2⟩
      case measure => simp [intOf]; omega
    · have hjn : j = cs.length := by omega
      subst hjn
      obtain ⟨g, cap, F, rfl, hcap, hgW, hargs, hap⟩ := hR.whole HG.out hcp
      have hal := hR.len
      have ho := hout.out
      rw [List.drop_length] at ho
      have hEW : Evo rb m { mj with priv := m.priv } W wr := HE.out.trans hR.evo
      have y10 := at_cell0 hR.tm.c (i := 0) rfl
      have y11 := at_cell0 hR.tm.c (i := 1) rfl
      have y0 := at_cell0 hR.tm.r (i := 0) rfl
      simp only [List.getElem_toArray, List.getElem_cons_zero, List.getElem_cons_succ] at y0 y10 y11
      have hle := hR.le
      have HLEN := Lib.hid hal
      have he : out = primP inp (ev inp n) n0 acc s' := by rw [ho]; rfl
      have HC := Lib.hid ((prim_any HOK.out hgW (Nat.lt_of_le_of_lt hle.left hn') (by have h1 : s'.out.length + s'.left ≤ s.out.length + (s.left - 1) + 0 := hle.out; have h2 := HSF.out; omega) hpr.1 hpr.2 (by rw [hal]; exact HCL.out) hargs).mono fun en V2 hh => (show LastEnds rb B inp fuel { mj with priv := m.priv } wr m W out en V2 from by rw [he]; exact lastEnds hh hEW))
      clear hR hgW hargs hap hEW he ho hcap hle hal hout hO1 hR0
      go_wp2_with (go_at_call 43; refine HC.out.mono ?_; rintro en w' ⟨⟨g, rfl⟩ | ⟨ch, rfl⟩, ⟨m4, hk4⟩, hP⟩; rotate_left; exact ⟨rfl, hP⟩)
      all_goals (go_ret; exact hP)
end Go.Proofs.YtnolhcdfknjncaaDoor
