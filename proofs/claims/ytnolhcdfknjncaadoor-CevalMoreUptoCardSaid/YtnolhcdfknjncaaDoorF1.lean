/-
  The program's evaluator: functions that know one another: what lies in memory while they are made.
-/
import Derived.Test.YtnolhcdfknjncaaDoorE9
set_option linter.unusedVariables false
set_option linter.unusedSimpArgs false
namespace Go.Proofs.YtnolhcdfknjncaaDoor
open Go.RowKit

theorem fixEnv_snoc : ∀ (k : Nat) (l : List Int) (x y : Int) (i : Nat) (e : PEnv), l.length = 2 * k → fixEnv (l ++ [x, y]) i e = (x, .fn (i + k)) :: fixEnv l i e
  | 0, [], x, y, i, e, _ => by simp [fixEnv]
  | k + 1, a :: b :: l, x, y, i, e, h => by
    have := fixEnv_snoc k l x y (i + 1) ((a, .fn i) :: e) (by simp at h; omega)
    simp only [List.cons_append, fixEnv]
    rw [this, show i + 1 + k = i + (k + 1) by omega]
  | k + 1, [a], x, y, i, e, h => by simp at h; omega
  | 0, _ :: _, x, y, i, e, h => by simp at h
  | k + 1, [], x, y, i, e, h => by simp at h
theorem fixEnv_take (ks : List Int) (i : Nat) (e : PEnv) {k : Nat} (h : 2 * k + 1 < ks.length) : fixEnv (ks.take (2 * (k + 1))) i e = (nth ks (2 * k), .fn (i + k)) :: fixEnv (ks.take (2 * k)) i e := by
  have h1 : ks.take (2 * (k + 1)) = ks.take (2 * k) ++ [nth ks (2 * k), nth ks (2 * k + 1)] := by
    rw [show 2 * (k + 1) = 2 * k + 1 + 1 by omega, take_snoc ks (by omega), take_snoc ks (by omega)]
    simp
  rw [h1, fixEnv_snoc k _ _ _ _ _ (by simp; omega)]
theorem fixFns_length (env : PEnv) : ∀ (q : Nat) (ks : List Int) (cs : List Core), ks.length = 2 * q → q ≤ cs.length → (fixFns env ks cs).length = q
  | 0, [], cs, _, _ => by cases cs <;> simp [fixFns]
  | q + 1, a :: b :: ks, c :: cs, h, h' => by simp [fixFns, fixFns_length env q ks cs (by simp at h; omega) (by simp at h'; omega)]
  | 0, _ :: _, cs, h, _ => by simp at h
  | q + 1, [], cs, h, _ => by simp at h
  | q + 1, [a], cs, h, _ => by simp at h; omega
  | q + 1, a :: b :: ks, [], h, h' => by simp at h'
theorem fixFns_get (env : PEnv) : ∀ (q : Nat) (ks : List Int) (cs : List Core), ks.length = 2 * q → (h' : q ≤ cs.length) → ∀ j (hj : j < q), (fixFns env ks cs)[j]? = some ⟨nth ks (2 * j + 1), cs[j], env⟩
  | q + 1, a :: b :: ks, c :: cs, h, h', 0, hj => by simp [fixFns, nth]
  | q + 1, a :: b :: ks, c :: cs, h, h', j + 1, hj => by
    have := fixFns_get env q ks cs (by simp at h; omega) (by simp at h'; omega) j (by omega)
    simp only [fixFns, List.getElem?_cons_succ, List.getElem_cons_succ]
    rw [this]
    simp [nth, show 2 * (j + 1) + 1 = 2 * j + 1 + 1 + 1 by omega]
  | 0, _, cs, h, _, j, hj => by omega
  | q + 1, [], cs, h, _, j, hj => by simp at h
  | q + 1, [a], cs, h, _, j, hj => by simp at h; omega
  | q + 1, a :: b :: ks, [], h, h', j, hj => by simp at h'

def Persist (w w' : World) : Prop := ∀ (b : Nat) (cs : Array Value) (T : TypeId) (fr : Nat × Nat), T = 90 ∨ T = 93 → w.heap[b]? = some (.cells cs T fr) → w'.heap[b]? = some (.cells cs T fr)
theorem Persist.trans {a b c : World} (h : Persist a b) (k : Persist b c) : Persist a c := fun i cs T fr hT hh => k i cs T fr hT (h i cs T fr hT hh)
theorem Persist.alloc (w : World) (o : Obj) : Persist w (w.alloc o) := fun b cs T fr _ hh =>
  (((Below.refl w.heap.size w).alloc (Nat.le_refl _) o).block b (Array.getElem?_eq_some_iff.1 hh).1).trans hh
theorem Persist.grown {w w' : World} {base : Nat} {v : Value} {n : Nat} {xs : List Value} (ho : w.ownsRow base 88 1 v n xs) (hg : w.grownBy w' v.ownBlock) : Persist w w' := fun b cs T fr hT hh => by
  refine (hg.block b (Array.getElem?_eq_some_iff.1 hh).1 ?_).trans hh
  rcases ho.2 with ⟨rfl, _⟩ | ⟨g, cap, cur, rfl, _, hgg, _⟩
  · simp [Value.ownBlock]
  · simp only [Value.ownBlock, ne_eq, Option.some.injEq]
    rintro rfl
    have := hh.symm.trans hgg
    simp only [Option.some.injEq, Obj.cells.injEq] at this
    rcases hT with rfl | rfl
    · exact absurd this.2.1 (by decide)
    · exact absurd this.2.1 (by decide)

/-- the links that were made -/
inductive LinkIn (n0 : Nat) (w : World) (ks : List Int) (bs : List Nat) (ge : Value) : Nat → Value → Prop
  | zero : LinkIn n0 w ks bs ge 0 ge
  | succ {k : Nat} {gp : Value} {b f : Nat} (h : LinkIn n0 w ks bs ge k gp) (hlo : n0 ≤ b) (hf : bs[k]? = some f)
      (hb : w.heap[b]? = some (.cells #[.int .i64 (nth ks (2 * k)), .iface 88 (.pointer (some ⟨f, 0, none⟩)), gp] 93 (0, 0))) : LinkIn n0 w ks bs ge (k + 1) (.pointer (some ⟨b, 0, none⟩))
theorem LinkIn.persist {n0 : Nat} {w w' : World} {ks : List Int} {bs bs' : List Nat} {ge : Value} (hp : ∀ (b : Nat) (cs : Array Value) (fr : Nat × Nat), w.heap[b]? = some (.cells cs 93 fr) → w'.heap[b]? = some (.cells cs 93 fr)) (hbs : bs <+: bs') {k : Nat} {gp : Value} (h : LinkIn n0 w ks bs ge k gp) : LinkIn n0 w' ks bs' ge k gp := by
  induction h with
  | zero => exact .zero
  | succ _ hlo hf hb ih => exact .succ ih hlo (prefix_get hbs hf) (hp _ _ _ hb)
theorem LinkIn.shape {n0 : Nat} {w : World} {ks : List Int} {bs : List Nat} {ge : Value} (hge : ∃ p, ge = .pointer p) {k : Nat} {gp : Value} (h : LinkIn n0 w ks bs ge k gp) : ∃ p, gp = .pointer p := by
  cases h with
  | zero => exact hge
  | succ => exact ⟨_, rfl⟩

/-- functions that were made so far -/
structure FixIn (W0 wr : World) (ks : List Int) (G0 G1 G2 G3 : Nat → Value) (ge : Value) (k : Nat) (kn : Nat → Value) (bs : List Nat) (v gp : Value) : Prop where
  below : Below W0.heap.size W0 wr
  len : bs.length = k
  lo : ∀ b ∈ bs, W0.heap.size ≤ b
  nodup : bs.Nodup
  fnb : ∀ j (h : j < bs.length), wr.heap[bs[j]]? = some (.cells #[.int .i64 (nth ks (2 * j + 1)), G0 j, G1 j, G2 j, G3 j, kn j] 90 (0, 0))
  row : wr.ownsRow W0.heap.size 88 1 v k (bs.map fun b => .pointer (some ⟨b, 0, none⟩))
  lk : LinkIn W0.heap.size wr ks bs ge k gp
section
variable {W0 wr : World} {ks : List Int} {G0 G1 G2 G3 : Nat → Value} {ge : Value} {k : Nat} {kn : Nat → Value} {bs : List Nat} {v gp : Value}
theorem FixIn.start (W0 : World) (ks : List Int) (G0 G1 G2 G3 : Nat → Value) (ge : Value) (kn : Nat → Value) : FixIn W0 W0 ks G0 G1 G2 G3 ge 0 kn [] (.slice none 0 0) ge :=
  ⟨Below.refl _ _, rfl, by simp, by simp, by simp, ⟨by simp, .inl ⟨rfl, rfl⟩⟩, .zero⟩
/-- one more: its block, the literal of 'append', the longer slice, the link -/
theorem FixIn.more (h : FixIn W0 wr ks G0 G1 G2 G3 ge k kn bs v gp) (hkn : kn k = .pointer none) {o : Obj} {w1 : World} {v' : Value}
    (hown : w1.ownsRow W0.heap.size 88 1 v' (k + 1) ((bs.map fun b => Value.pointer (some ⟨b, 0, none⟩)) ++ [.pointer (some ⟨wr.heap.size, 0, none⟩)]))
    (hgrow : ((wr.drew.alloc (.cells #[.int .i64 (nth ks (2 * k + 1)), G0 k, G1 k, G2 k, G3 k, .pointer none] 90)).alloc o).grownBy w1 v.ownBlock) :
    FixIn W0 (w1.alloc (.cells #[.int .i64 (nth ks (2 * k)), .iface 88 (.pointer (some ⟨wr.heap.size, 0, none⟩)), gp] 93)) ks G0 G1 G2 G3 ge (k + 1) kn (bs ++ [wr.heap.size]) v' (.pointer (some ⟨w1.heap.size, 0, none⟩)) := by
  have hs := h.below.size
  have hb1 : Below W0.heap.size W0 ((wr.drew.alloc (.cells #[.int .i64 (nth ks (2 * k + 1)), G0 k, G1 k, G2 k, G3 k, .pointer none] 90)).alloc o) :=
    (h.below.drew.alloc hs _).alloc (by rw [World.size_alloc]; exact Nat.le_trans hs (Nat.le_succ _)) _
  have hb2 : Below W0.heap.size W0 w1 := hb1.grown hgrow hb1.size (fun j hj => (h.row.lt j hj).1)
  have p1 : Persist wr ((wr.drew.alloc (.cells #[.int .i64 (nth ks (2 * k + 1)), G0 k, G1 k, G2 k, G3 k, .pointer none] 90)).alloc o) :=
    Persist.trans (show Persist wr _ from Persist.alloc wr.drew _) (Persist.alloc _ _)
  have hr1 := (h.row.drew.alloc (.cells #[.int .i64 (nth ks (2 * k + 1)), G0 k, G1 k, G2 k, G3 k, .pointer none] 90)).alloc o
  have p2 : Persist ((wr.drew.alloc (.cells #[.int .i64 (nth ks (2 * k + 1)), G0 k, G1 k, G2 k, G3 k, .pointer none] 90)).alloc o) w1 := Persist.grown hr1 hgrow
  have p3 := Persist.alloc w1 (.cells #[.int .i64 (nth ks (2 * k)), .iface 88 (.pointer (some ⟨wr.heap.size, 0, none⟩)), gp] 93)
  have hp := (p1.trans p2).trans p3
  have hfn : (w1.alloc (.cells #[.int .i64 (nth ks (2 * k)), .iface 88 (.pointer (some ⟨wr.heap.size, 0, none⟩)), gp] 93)).heap[wr.heap.size]? = some (.cells #[.int .i64 (nth ks (2 * k + 1)), G0 k, G1 k, G2 k, G3 k, .pointer none] 90 (0, 0)) :=
    (p2.trans p3) _ _ _ _ (.inl rfl) ((Persist.alloc _ o) _ _ _ _ (.inl rfl) (World.alloc_heap_new wr.drew _))
  refine ⟨hb2.alloc hb2.size _, by simp [h.len], ?_, ?_, ?_, ?_, ?_⟩
  · intro b hb
    rcases List.mem_append.1 hb with hb | hb
    · exact h.lo b hb
    · simp at hb; omega
  · rw [List.nodup_append]
    refine ⟨h.nodup, by simp, fun x hx y hy => ?_⟩
    obtain ⟨i, hi, rfl⟩ := List.getElem_of_mem hx
    have := (Array.getElem?_eq_some_iff.1 (h.fnb i hi)).1
    simp at hy; omega
  · intro j hj
    by_cases hjk : j < bs.length
    · rw [List.getElem_append_left hjk]
      exact hp _ _ _ _ (.inl rfl) (h.fnb j hjk)
    · have : j = k := by simp at hj; have := h.len; omega
      subst this
      have h' : (bs ++ [wr.heap.size])[j] = wr.heap.size := by rw [List.getElem_append_right (by omega)]; simp
      rw [h', hfn, hkn]
  · have := hown.alloc (.cells #[.int .i64 (nth ks (2 * k)), .iface 88 (.pointer (some ⟨wr.heap.size, 0, none⟩)), gp] 93)
    simpa using this
  · refine .succ (h.lk.persist (fun b cs fr hh => hp b cs _ fr (.inr rfl) hh) (List.prefix_append _ _)) hb2.size (f := wr.heap.size) ?_ (World.alloc_heap_new w1 _)
    rw [← h.len, List.getElem?_append_right (Nat.le_refl _)]; simp
/-- the functions get to know -/
theorem FixIn.know (h : FixIn W0 wr ks G0 G1 G2 G3 ge k kn bs v gp) {j : Nat} (hj : j < bs.length) (u : Value) :
    FixIn W0 (wr.setCell ⟨bs[j], 5, none⟩ u) ks G0 G1 G2 G3 ge k (fun i => if i = j then u else kn i) bs v gp := by
  have hlo := h.lo _ (List.getElem_mem hj)
  have hfj := h.fnb j hj
  refine ⟨h.below.setCell (p := ⟨bs[j], 5, none⟩) hlo _, h.len, h.lo, h.nodup, ?_, ?_, ?_⟩
  · intro i hi
    by_cases hij : i = j
    · subst hij
      rw [heap_set_self hfj]
      simp
    · have hne : bs[i] ≠ bs[j] := fun e => by
        have hp := List.pairwise_iff_getElem.1 h.nodup
        rcases Nat.lt_or_gt_of_ne hij with hlt | hgt
        · exact hp i j hi hj hlt e
        · exact hp j i hj hi hgt e.symm
      rw [heap_set_ne hne, h.fnb i hi]
      simp [hij]
  · refine h.row.kept (row := some bs[j]) ⟨rfl, rfl, rfl, by simp [World.setCell], fun i hi hne => heap_set_ne (fun e => hne (by rw [e])) _ _⟩ ?_
    rcases h.row.2 with ⟨rfl, _⟩ | ⟨g, cap, cur, rfl, _, hgg, _⟩
    · exact .inl rfl
    · refine .inr ?_
      simp only [Value.ownBlock, ne_eq, Option.some.injEq]
      rintro rfl
      have := hfj.symm.trans hgg
      simp only [Option.some.injEq, Obj.cells.injEq] at this
      exact absurd this.2.1 (by decide)
  · refine h.lk.persist (fun b cs fr hh => ?_) (List.prefix_refl _)
    refine (heap_set_ne ?_ _ _).trans hh
    rintro rfl
    have := hfj.symm.trans hh
    simp only [Option.some.injEq, Obj.cells.injEq] at this
    exact absurd this.2.1 (by decide)
end

section
variable {rb B : Nat} {inp : List Int} {fuel n : Nat} {s : St} {m : Mem} {W W0 W' : World}
/-- what is known behind it -/
theorem LinkIn.env {ks : List Int} {bs : List Nat} {ge : Value} {k : Nat} {gp : Value} (h : LinkIn W0.heap.size W' ks bs ge k gp) (hm : ∀ k, W0.heap.size ≤ k → ¬ m.apart rb k) (hk : 2 * k ≤ ks.length) {m' : Mem} (hm' : ∀ k, m'.apart rb k ↔ m.apart rb k) (hfa : ∀ j b, bs[j]? = some b → m'.fa[s.fns.length + j]? = some b)
    {e : PEnv} (he : EnvIn rb m' W' e ge) : EnvIn rb m' W' (fixEnv (ks.take (2 * k)) s.fns.length e) gp := by
  induction h with
  | zero => simpa [fixEnv] using he
  | @succ k gp b f h hlo hf hb ih =>
    rw [fixEnv_take ks _ _ (by omega)]
    exact .cons ⟨hb, fun hx => hm b hlo ((hm' b).1 hx)⟩ (.fn (hfa _ _ hf)) (ih (by omega))

theorem Good.fixed (hg : Good rb B inp fuel s m W) (hW0 : Below W.heap.size W W0) {ks : List Int} {cs : List Core} {Ac : Option Addr} {b o : Nat} {G0 G1 G2 G3 : Nat → Value} (hK : KidsIn B W Ac cs b o G0 G1 G2 G3) (hwt : ∀ c ∈ cs, WT c) {q : Nat} (hks : ks.length = 2 * q) (hq : q ≤ cs.length)
    {e : PEnv} {ge : Value} (he : EnvIn rb m W e ge) {bs : List Nat} {v gp : Value} (h : FixIn W0 W' ks G0 G1 G2 G3 ge q (fun _ => gp) bs v gp) :
    Good rb B inp fuel { s with fns := s.fns ++ fixFns (fixEnv ks s.fns.length e) ks cs } { m with fa := m.fa ++ bs } W' ∧ Evo rb m { m with fa := m.fa ++ bs } W W' ∧ EnvIn rb { m with fa := m.fa ++ bs } W' (fixEnv ks s.fns.length e) gp := by
  have hsz := hW0.size
  have hbW : Below W.heap.size W W' := hW0.trans (h.below.mono hsz)
  have hk : Evo rb m { m with fa := m.fa ++ bs } W W' := (Evo.below hbW).more (List.prefix_append _ _) (List.prefix_refl _) (fun k hk => .inl hk)
  have hgW := hg.below hbW
  have henv : EnvIn rb { m with fa := m.fa ++ bs } W' (fixEnv ks s.fns.length e) gp := by
    have := h.lk.env (s := s) (m := m) (m' := { m with fa := m.fa ++ bs }) (rb := rb) (fun k hk hm => by have := hg.apartLt hm; omega) (by omega) (fun k => Iff.rfl) (fun j f hf => ?_) (he.evo hk)
    · rwa [List.take_of_length_le (by omega)] at this
    · show (m.fa ++ bs)[s.fns.length + j]? = _
      rw [← hg.falen, List.getElem?_append_right (by omega)]
      simpa using hf
  have hl : (fixFns (fixEnv ks s.fns.length e) ks cs).length = q := fixFns_length _ q ks cs hks hq
  refine ⟨⟨hgW.Bs, hg.rbB, hg.left, hg.fuelB, hg.bnd, hgW.run, hgW.out, ?_, ?_, hg.calen, ?_, hg.nodup, hg.rbca, hg.rbo, hg.oca, hg.caB, hg.privEvo hk⟩, hk, henv⟩
  · show (m.fa ++ bs).length = (s.fns ++ _).length
    simp [hg.falen, hl, h.len]
  · intro i hi
    by_cases hi' : i < s.fns.length
    · obtain ⟨b', c0, c1, c2, c3, kp, h1, h2, h3, h4, h5⟩ := hg.fnsEvo hk i hi'
      simp only [List.getElem_append_left hi']
      exact ⟨b', c0, c1, c2, c3, kp, h1, h2, h3, h4, h5⟩
    · have hj : i - s.fns.length < q := by simp [hl] at hi; omega
      have hjb : i - s.fns.length < bs.length := by rw [h.len]; exact hj
      have hget := fixFns_get (fixEnv ks s.fns.length e) q ks cs hks hq (i - s.fns.length) hj
      have hget' : (s.fns ++ fixFns (fixEnv ks s.fns.length e) ks cs)[i] = ⟨nth ks (2 * (i - s.fns.length) + 1), cs[i - s.fns.length], fixEnv ks s.fns.length e⟩ := by
        rw [List.getElem_append_right (by omega)]
        rw [List.getElem?_eq_getElem (by omega)] at hget
        exact Option.some.inj hget
      simp only [hget']
      refine ⟨bs[i - s.fns.length], _, _, _, _, gp, ?_, ⟨h.fnb _ hjb, ?_⟩, (hK.hsub _ (by omega)).stay (hg.stay hk), hwt _ (List.getElem_mem _), henv⟩
      · show (m.fa ++ bs)[i]? = _
        rw [List.getElem?_append_right (by rw [hg.falen]; omega), hg.falen, List.getElem?_eq_getElem hjb]
      · intro hm
        have := hg.apartLt (k := bs[i - s.fns.length]) hm
        have := h.lo _ (List.getElem_mem hjb)
        omega
  · intro i hi
    obtain ⟨b', gv, h1, h2, h3⟩ := hg.cells i hi
    exact ⟨b', gv, h1, (hbW.block b' (Array.getElem?_eq_some_iff.1 h2).1).trans h2, h3.evo hk⟩
end
end Go.Proofs.YtnolhcdfknjncaaDoor
