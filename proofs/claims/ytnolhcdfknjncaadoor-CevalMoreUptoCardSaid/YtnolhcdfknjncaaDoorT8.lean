/-
  The program's evaluator: a row of values that a frame fills.
-/
import Derived.Test.YtnolhcdfknjncaaDoorT7
set_option linter.unusedVariables false
set_option linter.unusedSimpArgs false
namespace Go.Proofs.YtnolhcdfknjncaaDoor
open Go.RowKit

/-- a step in which nothing turns but a row that a frame fills -/
structure PrivStep (rb : Nat) (m m' : Mem) (W W' : World) (row : Option Nat) : Prop where
  grow : W.grownBy W' row
  rowP : ∀ k, row = some k → k ∈ m.priv
  fa : m'.fa = m.fa
  ca : m'.ca = m.ca
  vo : m'.vo = m.vo
  priv : ∀ k ∈ m'.priv, k ∈ m.priv ∨ W.heap.size ≤ k
section
variable {rb B : Nat} {inp : List Int} {fuel : Nat} {s : St} {m m' : Mem} {W W' : World} {row : Option Nat}
theorem PrivStep.mut (h : PrivStep rb m m' W W' row) (k : Nat) : m'.mut rb k ↔ m.mut rb k := by unfold Mem.mut; rw [h.ca, h.vo]
theorem PrivStep.same (h : PrivStep rb m m' W W' row) {k : Nat} (hk : k < W.heap.size) (hn : ¬ m.apart rb k) : W'.heap[k]? = W.heap[k]? := h.grow.block k hk (fun e => hn (.inr (h.rowP k e.symm)))
theorem PrivStep.apart (h : PrivStep rb m m' W W' row) {k : Nat} (hk : k < W.heap.size) (hn : ¬ m.apart rb k) : ¬ m'.apart rb k := fun hb => by
  rcases hb with hb | hb
  · exact hn (.inl ((h.mut k).1 hb))
  · rcases h.priv k hb with hb | hb
    · exact hn (.inr hb)
    · omega
theorem At.step {b : Nat} {o : Obj} (ha : At rb m W b o) (h : PrivStep rb m m' W W' row) : At rb m' W' b o :=
  have hlt := (Array.getElem?_eq_some_iff.1 ha.1).1
  ⟨(h.same hlt ha.2).trans ha.1, h.apart hlt ha.2⟩
theorem RepV.step (h : PrivStep rb m m' W W' row) {v : PV} {g : Value} (hv : RepV rb m W v g) : RepV rb m' W' v g := by
  induction hv with
  | int n => exact .int n
  | blk hb hg hgm hl h8 hc _ ih => exact .blk (hb.step h) (Nat.lt_of_lt_of_le hg h.grow.size) (h.apart hg hgm) hl h8 (fun j hj => (cell_of_heap (h.same hg hgm) j).trans (hc j hj)) ih
  | fn hh => exact .fn (by rw [h.fa]; exact hh)
  | ref hh => exact .ref (by rw [h.ca]; exact hh)
theorem EnvIn.step (h : PrivStep rb m m' W W' row) {e : PEnv} {g : Value} (he : EnvIn rb m W e g) : EnvIn rb m' W' e g := by
  induction he with
  | nil => exact .nil
  | cons hb hv _ ih => exact .cons (hb.step h) (hv.step h) ih
theorem Good.stayP (hg : Good rb B inp fuel s m W) (h : PrivStep rb m m' W W' row) : Stay B W W' := fun b o v hb hc =>
  (cell_of_heap (h.grow.block b (by have := hg.Bs; omega) (fun e => by have := (hg.priv b (h.rowP b e.symm)).1; omega)) o).trans hc
theorem Good.step_ (hg : Good rb B inp fuel s m W) (h : PrivStep rb m m' W W' row) (hlt : ∀ k ∈ m'.priv, k < W'.heap.size) : Good rb B inp fuel s m' W' := by
  have hst := hg.stayP h
  have hnr : ∀ k, m.mut rb k → row ≠ some k := fun k hk e => (hg.priv k (h.rowP k e)).2.2 hk
  have hmut : ∀ k, m.mut rb k → W'.heap[k]? = W.heap[k]? := fun k hk => h.grow.block k (hg.mutLt hk) (fun e => hnr k hk e.symm)
  obtain ⟨Ai, ci, hr, hi, hci⟩ := hg.run
  refine ⟨Nat.le_trans hg.Bs h.grow.size, hg.rbB, hg.left, hg.fuelB, hg.bnd, ⟨Ai, ci, ?_, hi.stay hst, hci⟩, ?_, by rw [h.fa]; exact hg.falen, ?_, by rw [h.ca]; exact hg.calen, ?_, by rw [h.ca]; exact hg.nodup, by rw [h.ca]; exact hg.rbca, by rw [h.vo]; exact hg.rbo, by rw [h.ca, h.vo]; exact hg.oca, by rw [h.ca]; exact hg.caB, ?_⟩
  · rw [h.vo, hmut rb (.inl rfl)]; exact hr
  · rw [h.vo]
    refine hg.out.kept h.grow ?_
    cases ho : m.vo.ownBlock with
    | none => exact .inl rfl
    | some k => exact .inr fun e => hnr k (.inr (.inl ho)) e.symm
  · intro i hi
    obtain ⟨b, c0, c1, c2, c3, kp, h1, h2, h3, h4, h5⟩ := hg.fns i hi
    exact ⟨b, c0, c1, c2, c3, kp, by rw [h.fa]; exact h1, h2.step h, h3.stay hst, h4, h5.step h⟩
  · intro i hi
    obtain ⟨b, gv, h1, h2, h3⟩ := hg.cells i hi
    exact ⟨b, gv, by rw [h.ca]; exact h1, (hmut b (.inr (.inr (List.mem_of_getElem? h1)))).trans h2, h3.step h⟩
  · intro k hk
    refine ⟨?_, hlt k hk, fun hm => ?_⟩
    · rcases h.priv k hk with hp | hp
      · exact (hg.priv k hp).1
      · have := hg.Bs; omega
    · have hm' := (h.mut k).1 hm
      rcases h.priv k hk with hp | hp
      · exact (hg.priv k hp).2.2 hm'
      · have := hg.mutLt hm'; omega
theorem TermAt.step {t : Core} {v : Array Value} {e : PEnv} {ge : Value} {b0 : Nat} (ht : TermAt rb B m W t v e ge b0) (hg : Good rb B inp fuel s m W) (h : PrivStep rb m m' W W' row) : TermAt rb B m' W' t v e ge b0 :=
  ⟨ht.r.step h, ht.c.step h, ht.k.step h, ht.core.stay (hg.stayP h), ht.env.step h⟩
end

theorem ownsRow_same {w w' : World} {base : Nat} {e : TypeId} {size : Nat} {v : Value} {n : Nat} {xs : List Value} (h : w.ownsRow base e size v n xs) (hk : ∀ k, v.ownBlock = some k → w'.heap[k]? = w.heap[k]?) : w'.ownsRow base e size v n xs := by
  refine ⟨h.1, ?_⟩
  rcases h.2 with h0 | ⟨g, cap, cur, rfl, h1, h2, h3⟩
  · exact .inl h0
  · exact .inr ⟨g, cap, cur, rfl, h1, (hk g rfl).trans h2, h3⟩

/-- a row that is being filled -/
structure RowIn (rb B : Nat) (inp : List Int) (fuel : Nat) (t : Core) (v : Array Value) (e : PEnv) (ge : Value) (b0 : Nat) (s1 : St) (m0 : Mem) (V : World) (j : Nat) (acc : List PV) (s' : St) (mj : Mem) (wr : World) (rv : Value) (Fs : List Value) : Prop where
  good : Good rb B inp fuel s' mj wr
  tm : TermAt rb B mj wr t v e ge b0
  evo : Evo rb m0 { mj with priv := m0.priv } V wr
  priv : mj.priv = rv.ownBlock.toList ++ m0.priv
  len : acc.length = j
  row : wr.ownsRow V.heap.size 54 1 rv j Fs
  rep : ∀ i (h : i < acc.length), ∃ F, Fs[i]? = some F ∧ RepV rb mj wr acc[i] F
  le : Le s1 s'
section
variable {rb B : Nat} {inp : List Int} {fuel : Nat} {t : Core} {v : Array Value} {e : PEnv} {ge : Value} {b0 : Nat} {s1 : St} {m0 : Mem} {V : World} {j : Nat} {acc : List PV} {s' : St} {mj : Mem} {wr : World} {rv : Value} {Fs : List Value}
theorem Evo.repriv {m m' : Mem} {W W' : World} (h : Evo rb m m' W W') (p : List Nat) : Evo rb { m with priv := p } { m' with priv := p } W W' := ⟨h.os, h.tape, h.output, h.size, h.same, h.fresh, h.fa, h.ca, rfl⟩
theorem RowIn.start (hg : Good rb B inp fuel s1 m0 V) (ht : TermAt rb B m0 V t v e ge b0) : RowIn rb B inp fuel t v e ge b0 s1 m0 V 0 [] s1 m0 V (.slice none 0 0) [] :=
  ⟨hg, ht, Evo.refl _ _ _, rfl, rfl, ⟨by simp, .inl ⟨rfl, rfl⟩⟩, by intro i h; simp at h, Le.refl _ _⟩
/-- the frame gives the row up -/
theorem priv_back {m2 : Mem} {W2 : World} {p : List Nat} (hp : m2.priv = p ++ m0.priv) : PrivStep rb m2 { m2 with priv := m0.priv } W2 W2 none :=
  ⟨⟨rfl, rfl, rfl, Nat.le_refl _, fun _ _ _ => rfl⟩, (by intro k h; cases h), rfl, rfl, rfl, fun k hk => .inl (by rw [hp]; exact List.mem_append.2 (.inr hk))⟩
theorem RowIn.back (h : RowIn rb B inp fuel t v e ge b0 s1 m0 V j acc s' mj wr rv Fs) (hg0 : Good rb B inp fuel s1 m0 V) {o : Out} {en : Ending} {W2 : World} (hp : EvPost rb B inp fuel mj wr o en W2) : EvPost rb B inp fuel m0 V o en W2 := by
  have key : ∀ (m2 : Mem) (s2 : St), Evo rb mj m2 wr W2 → Good rb B inp fuel s2 m2 W2 → Evo rb m0 { m2 with priv := m0.priv } V W2 ∧ Good rb B inp fuel s2 { m2 with priv := m0.priv } W2 ∧ PrivStep rb m2 { m2 with priv := m0.priv } W2 W2 none := fun m2 s2 hk hg => by
    have hpr := priv_back (rb := rb) (m0 := m0) (W2 := W2) (m2 := m2) (hk.priv.trans h.priv)
    exact ⟨h.evo.trans (hk.repriv m0.priv), hg.step_ hpr (fun k hk' => Nat.lt_of_lt_of_le (hg0.priv k hk').2.1 (Nat.le_trans h.evo.size hk.size)), hpr⟩
  cases hp with
  | val h1 h2 h3 => obtain ⟨q1, q2, q3⟩ := key _ _ h1 h2; exact .val q1 q2 (h3.step q3)
  | raised h1 h2 h3 h4 h5 => obtain ⟨q1, q2, q3⟩ := key _ _ h1 h2; exact .raised q1 q2 (h3.step q3) h4 h5
  | stuck h1 h2 h3 => obtain ⟨q1, q2, q3⟩ := key _ _ h1 h2; exact .stuck q1 q2 h3
  | cut h1 h2 h3 => obtain ⟨q1, q2, q3⟩ := key _ _ h1 h2; exact .cut q1 q2 h3
/-- one more value -/
theorem RowIn.more (h : RowIn rb B inp fuel t v e ge b0 s1 m0 V j acc s' mj wr rv Fs) (hg0 : Good rb B inp fuel s1 m0 V) {s2 : St} {m2 : Mem} {V2 : World} {a : PV} {T : TypeId} {x : Value} (hk : Evo rb mj m2 wr V2) (hg2 : Good rb B inp fuel s2 m2 V2) (ha : RepV rb m2 V2 a (.iface T x)) (hle : Le s' s2)
    {o : Obj} {w1 : World} {rv' : Value} (hown : w1.ownsRow V.heap.size 54 1 rv' (j + 1) (Fs ++ [.iface T x])) (hgrow : (V2.alloc o).grownBy w1 rv.ownBlock) (hat : rv'.ownBlock = rv.ownBlock ∨ rv'.ownBlock = some (V2.alloc o).heap.size) :
    RowIn rb B inp fuel t v e ge b0 s1 m0 V (j + 1) (acc ++ [a]) s2 { m2 with priv := rv'.ownBlock.toList ++ m0.priv } w1 rv' (Fs ++ [.iface T x]) := by
  have hpr : m2.priv = rv.ownBlock.toList ++ m0.priv := hk.priv.trans h.priv
  have ha0 : Below V2.heap.size V2 (V2.alloc o) := (Below.refl _ _).alloc (Nat.le_refl _) _
  have hgr : V2.grownBy w1 rv.ownBlock := ⟨hgrow.os.trans ha0.os, hgrow.tape.trans ha0.tape, hgrow.output.trans ha0.output, Nat.le_trans ha0.size hgrow.size, fun k hk hne => (hgrow.block k (Nat.lt_of_lt_of_le hk ha0.size) hne).trans (ha0.block k hk)⟩
  have hs : PrivStep rb m2 { m2 with priv := rv'.ownBlock.toList ++ m0.priv } V2 w1 rv.ownBlock := by
    refine ⟨hgr, fun k hk => by rw [hpr]; simp [hk], rfl, rfl, rfl, fun k hk => ?_⟩
    rcases List.mem_append.1 hk with hk | hk
    · rcases hat with hat | hat
      · exact .inl (by rw [hpr]; exact List.mem_append.2 (.inl (hat ▸ hk)))
      · rw [hat] at hk; simp at hk; exact .inr (by omega)
    · exact .inl (by rw [hpr]; exact List.mem_append.2 (.inr hk))
  refine ⟨hg2.step_ hs (fun k hkp => ?_), (h.tm.evo h.good hk).step hg2 hs, ?_, rfl, by simp [h.len], hown, ?_, (h.le.trans hle)⟩
  · rcases List.mem_append.1 hkp with hk' | hk'
    · exact (hown.lt k (by simpa using hk')).2
    · exact Nat.lt_of_lt_of_le (hg0.priv k hk').2.1 (Nat.le_trans (Nat.le_trans h.evo.size hk.size) hgr.size)
  · have e2 := h.evo.trans (hk.repriv m0.priv)
    refine ⟨hgr.os.trans e2.os, hgr.tape.trans e2.tape, hgr.output.trans e2.output, Nat.le_trans e2.size hgr.size, fun k hk' hm => ?_, e2.fresh, e2.fa, e2.ca, rfl⟩
    refine (hgr.block k (Nat.lt_of_lt_of_le hk' e2.size) (fun e => ?_)).trans (e2.same k hk' hm)
    have := (h.row.lt k e.symm).1
    omega
  · intro i hi
    have hFl : Fs.length = acc.length := by have := h.row.1; have := h.len; omega
    by_cases hia : i < acc.length
    · obtain ⟨F, h1, h2⟩ := h.rep i hia
      refine ⟨F, by rw [List.getElem?_append_left (by omega)]; exact h1, ?_⟩
      rw [List.getElem_append_left hia]
      exact (h2.evo hk).step hs
    · have : i = acc.length := by simp at hi; omega
      subst this
      refine ⟨.iface T x, by rw [List.getElem?_append_right (by omega)]; simp [hFl], ?_⟩
      simpa using ha.step hs
/-- the row is whole -/
theorem RowIn.whole (h : RowIn rb B inp fuel t v e ge b0 s1 m0 V j acc s' mj wr rv Fs) (hg0 : Good rb B inp fuel s1 m0 V) (hj : 0 < j) :
    ∃ g cap F, rv = .slice (some ⟨g, 0, none⟩) acc.length cap ∧ acc.length ≤ cap ∧ Good rb B inp fuel s' { mj with priv := m0.priv } wr ∧ ArgsIn rb { mj with priv := m0.priv } wr acc g cap F ∧ ¬ ({ mj with priv := m0.priv } : Mem).apart rb g := by
  have hs := priv_back (rb := rb) (m0 := m0) (W2 := wr) h.priv
  have hg := h.good.step_ hs (fun k hk' => Nat.lt_of_lt_of_le (hg0.priv k hk').2.1 h.evo.size)
  rcases h.row.2 with ⟨_, h0⟩ | ⟨g, cap, cur, rfl, hlo, hgg, hn, _, _, htake⟩
  · omega
  · have hgp := h.good.priv g (by rw [h.priv]; simp [Value.ownBlock])
    have hap : ¬ ({ mj with priv := m0.priv } : Mem).apart rb g := fun ha => by
      rcases ha with ha | ha
      · exact hgp.2.2 ha
      · have := (hg0.priv g ha).2.1; omega
    refine ⟨g, cap, fun i => Fs[i]?.getD .nilIface, by rw [h.len], by rw [h.len]; exact hn, hg, ⟨hgp.2.1, fun hm => hgp.2.2 hm, fun i hi => ?_, fun i hi => ?_⟩, hap⟩
    · obtain ⟨F, h1, h2⟩ := h.rep i hi
      have := World.ownsRow.cells h.row (g := g) rfl i F h1
      have ha : (⟨g, 0, none⟩ : Addr).add i = ⟨g, i, none⟩ := by unfold Addr.add; split <;> simp_all
      rw [ha] at this
      simpa [h1] using this
    · obtain ⟨F, h1, h2⟩ := h.rep i hi
      simpa [h1] using h2.step hs
end
end Go.Proofs.YtnolhcdfknjncaaDoor
