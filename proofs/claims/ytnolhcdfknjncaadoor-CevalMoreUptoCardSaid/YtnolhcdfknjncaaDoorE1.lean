/-
  The program's evaluator in memory: what stands for values, environments, a run; what a step of the run may turn.
-/
import Derived.Test.YtnolhcdfknjncaaDoorR5
import Derived.Test.YtnolhcdfknjncaaDoorE0
set_option linter.unusedVariables false
set_option linter.unusedSimpArgs false
namespace Go.Proofs.YtnolhcdfknjncaaDoor
open Go.RowKit

/-! ### terms that may be -/
def nodeOk (t : Core) : Prop := 1 ≤ t.k ∧ t.k ≤ 10 ∧ numE t.k t.n = 0 ∧ cntB t.k t.n t.ks.length t.cs.length = true ∧ keysB t.k t.ks = true
inductive WT : Core → Prop
  | mk {t : Core} : nodeOk t → (∀ c ∈ t.cs, WT c) → WT t
theorem WT.node {t : Core} (h : WT t) : nodeOk t := by cases h; assumption
theorem WT.kid {t : Core} (h : WT t) {c : Core} (hc : c ∈ t.cs) : WT c := by cases h with | mk _ h => exact h c hc

theorem firstE_zero {l : List (Int × Core)} {a : Int} (h : firstE a l = 0) : ∀ x ∈ l, nodeOk x.2 := by
  induction l generalizing a with
  | nil => intro x hx; simp at hx
  | cons y l ih =>
    simp only [firstE] at h
    by_cases hy : nodeE a y.1 y.2.k y.2.n y.2.ks y.2.cs.length = 0
    · rw [if_neg (by simp [hy])] at h
      intro x hx
      rcases List.mem_cons.1 hx with rfl | hx
      · unfold nodeE at hy
        split at hy
        · simp at hy
        split at hy
        · simp at hy
        split at hy
        · simp at hy
        rename_i h3
        split at hy
        · rename_i h4; exact absurd hy h4
        rename_i h4
        split at hy
        · simp at hy
        rename_i h5
        split at hy
        · simp at hy
        rename_i h6
        exact ⟨by omega, by omega, by simpa using h4, by simpa using h5, by simpa using h6⟩
      · exact ih h x hx
    · rw [if_pos hy] at h; exact absurd h hy
mutual
theorem wt_of_nodes (d : Int) : ∀ (t : Core), (∀ x ∈ nodesL d t, nodeOk x.2) → WT t
  | .mk k n ks cs, h => .mk (h (d, .mk k n ks cs) (by simp [nodesL])) (wts_of_nodes (d + 1) cs (fun x hx => h x (by simp [nodesL]; exact .inr hx)))
theorem wts_of_nodes (d : Int) : ∀ (cs : List Core), (∀ x ∈ nodesLs d cs, nodeOk x.2) → ∀ c ∈ cs, WT c
  | [], _ => fun c hc => by simp at hc
  | c :: cs, h =>
    have h1 : WT c := wt_of_nodes d c (fun x hx => h x (by simp [nodesLs]; exact .inl hx))
    have h2 : ∀ c ∈ cs, WT c := wts_of_nodes d cs (fun x hx => h x (by simp [nodesLs]; exact .inr hx))
    fun c' hc' => (List.mem_cons.1 hc').elim (fun e => e ▸ h1) (h2 c')
end
theorem wt_of_right {t : Core} (h : rightE t = 0) : WT t := wt_of_nodes 1 t (firstE_zero h)

/-! ### what a run may turn -/
/-- the blocks of functions, of cells; the value of what was printed -/
structure Mem where
  fa : List Nat
  ca : List Nat
  vo : Value
  priv : List Nat
def Mem.mut (rb : Nat) (m : Mem) (k : Nat) : Prop := k = rb ∨ m.vo.ownBlock = some k ∨ k ∈ m.ca
/-- what nothing that stands for a value may lie in: what a run may turn, and the rows that frames are filling -/
def Mem.apart (rb : Nat) (m : Mem) (k : Nat) : Prop := m.mut rb k ∨ k ∈ m.priv
structure Evo (rb : Nat) (m m' : Mem) (W W' : World) : Prop where
  os : W'.os = W.os
  tape : W'.tape = W.tape
  output : W'.output = W.output
  size : W.heap.size ≤ W'.heap.size
  same : ∀ k, k < W.heap.size → ¬ m.mut rb k → W'.heap[k]? = W.heap[k]?
  fresh : ∀ k, m'.mut rb k → m.mut rb k ∨ W.heap.size ≤ k
  fa : m.fa <+: m'.fa
  ca : m.ca <+: m'.ca
  priv : m'.priv = m.priv
theorem Evo.refl (rb : Nat) (m : Mem) (W : World) : Evo rb m m W W := ⟨rfl, rfl, rfl, Nat.le_refl _, fun _ _ _ => rfl, fun _ h => .inl h, List.prefix_refl _, List.prefix_refl _, rfl⟩
theorem Evo.trans {rb : Nat} {a b c : Mem} {A B C : World} (h : Evo rb a b A B) (k : Evo rb b c B C) : Evo rb a c A C :=
  ⟨k.os.trans h.os, k.tape.trans h.tape, k.output.trans h.output, Nat.le_trans h.size k.size,
   fun i hi hm => (k.same i (Nat.lt_of_lt_of_le hi h.size) (fun hb => by rcases h.fresh i hb with hb | hb; exact hm hb; omega)).trans (h.same i hi hm),
   fun i hi => by
     rcases k.fresh i hi with hb | hb
     · exact h.fresh i hb
     · exact .inr (Nat.le_trans h.size hb),
   h.fa.trans k.fa, h.ca.trans k.ca, k.priv.trans h.priv⟩
theorem Evo.below {rb : Nat} {m : Mem} {W W' : World} (h : Below W.heap.size W W') : Evo rb m m W W' :=
  ⟨h.os, h.tape, h.output, h.size, fun k hk _ => h.block k hk, fun _ h => .inl h, List.prefix_refl _, List.prefix_refl _, rfl⟩
theorem Evo.alloc (rb : Nat) (m : Mem) (W : World) (o : Obj) : Evo rb m m W (W.alloc o) := Evo.below ((Below.refl _ _).alloc (Nat.le_refl _) _)
theorem Evo.setCell {rb : Nat} {m : Mem} (W : World) {b : Nat} (o : Nat) (v : Value) (hb : m.mut rb b) : Evo rb m m W (W.setCell ⟨b, o, none⟩ v) :=
  ⟨rfl, rfl, rfl, by simp [World.setCell], fun k hk hm => Below.heap_setCell W _ _ k (fun e => hm (by subst e; exact hb)), fun _ h => .inl h, List.prefix_refl _, List.prefix_refl _, rfl⟩
theorem Evo.drew {rb : Nat} {m m' : Mem} {W W' : World} (h : Evo rb m m' W W') : Evo rb m m' W W'.drew := ⟨h.os, h.tape, h.output, h.size, h.same, h.fresh, h.fa, h.ca, h.priv⟩
/-- the books may be kept anew: functions and cells more, at new blocks -/
theorem Evo.more {rb : Nat} {m m' m'' : Mem} {W W' : World} (h : Evo rb m m' W W') (hfa : m'.fa <+: m''.fa) (hca : m'.ca <+: m''.ca) (hf : ∀ k, m''.mut rb k → m.mut rb k ∨ W.heap.size ≤ k) (hp : m''.priv = m'.priv := by rfl) : Evo rb m m'' W W' :=
  ⟨h.os, h.tape, h.output, h.size, h.same, hf, h.fa.trans hfa, h.ca.trans hca, hp.trans h.priv⟩

/-- a block that lies and that nothing turns any more -/
def At (rb : Nat) (m : Mem) (W : World) (b : Nat) (o : Obj) : Prop := W.heap[b]? = some o ∧ ¬ m.apart rb b
/-- what is apart stays so -/
theorem Evo.apart {rb : Nat} {m m' : Mem} {W W' : World} (hk : Evo rb m m' W W') {k : Nat} (h : k < W.heap.size) (hn : ¬ m.apart rb k) : ¬ m'.apart rb k := fun hb => by
  rcases hb with hb | hb
  · rcases hk.fresh k hb with hb | hb
    · exact hn (.inl hb)
    · omega
  · exact hn (.inr (hk.priv ▸ hb))
theorem At.evo {rb : Nat} {m m' : Mem} {W W' : World} {b : Nat} {o : Obj} (h : At rb m W b o) (hk : Evo rb m m' W W') : At rb m' W' b o :=
  have hlt := (Array.getElem?_eq_some_iff.1 h.1).1
  ⟨(hk.same b hlt (fun hm => h.2 (.inl hm))).trans h.1, hk.apart hlt h.2⟩

/-- what stands for a value -/
inductive RepV (rb : Nat) (m : Mem) (W : World) : PV → Value → Prop
  | int (n : Int) : RepV rb m W (.int n) (.iface 87 (.int .i64 n))
  | blk {tag : Int} {kids : List PV} {b g cap : Nat} {F : Nat → Value} (hb : At rb m W b (.cells #[.int .i64 tag, .slice (some ⟨g, 0, none⟩) kids.length cap] 99 (0, 0)))
      (hg : g < W.heap.size) (hgm : ¬ m.apart rb g) (hl : kids.length ≤ cap) (h8 : kids.length ≤ 8) (hc : ∀ j, j < kids.length → W.cell? ⟨g, j, none⟩ = some (F j)) (hk : ∀ j (h : j < kids.length), RepV rb m W kids[j] (F j)) :
      RepV rb m W (.blk tag kids) (.iface 95 (.pointer (some ⟨b, 0, none⟩)))
  | fn {i b : Nat} (h : m.fa[i]? = some b) : RepV rb m W (.fn i) (.iface 88 (.pointer (some ⟨b, 0, none⟩)))
  | ref {i b : Nat} (h : m.ca[i]? = some b) : RepV rb m W (.ref i) (.iface 126 (.pointer (some ⟨b, 0, none⟩)))
theorem prefix_get {α : Type} {a b : List α} (h : a <+: b) {i : Nat} {x : α} (hx : a[i]? = some x) : b[i]? = some x := by
  obtain ⟨r, rfl⟩ := h
  rw [List.getElem?_append_left (List.getElem?_eq_some_iff.1 hx).1]; exact hx
theorem cell_of_heap {W W' : World} {g : Nat} (h : W'.heap[g]? = W.heap[g]?) (o : Nat) : W'.cell? ⟨g, o, none⟩ = W.cell? ⟨g, o, none⟩ := World.cell?_of_block (w := W) h
theorem RepV.evo {rb : Nat} {m m' : Mem} {W W' : World} (hk : Evo rb m m' W W') {v : PV} {g : Value} (h : RepV rb m W v g) : RepV rb m' W' v g := by
  induction h with
  | int n => exact .int n
  | blk hb hg hgm hl h8 hc _ ih =>
    exact .blk (hb.evo hk) (Nat.lt_of_lt_of_le hg hk.size) (hk.apart hg hgm) hl h8 (fun j hj => (cell_of_heap (hk.same _ hg (fun hm => hgm (.inl hm))) j).trans (hc j hj)) ih
  | fn h => exact .fn (prefix_get hk.fa h)
  | ref h => exact .ref (prefix_get hk.ca h)
/-- what stands for what is known -/
inductive EnvIn (rb : Nat) (m : Mem) (W : World) : PEnv → Value → Prop
  | nil : EnvIn rb m W [] (.pointer none)
  | cons {x : Int} {v : PV} {e : PEnv} {gv nx : Value} {b : Nat} (hb : At rb m W b (.cells #[.int .i64 x, gv, nx] 93 (0, 0))) (hv : RepV rb m W v gv) (he : EnvIn rb m W e nx) : EnvIn rb m W ((x, v) :: e) (.pointer (some ⟨b, 0, none⟩))
theorem EnvIn.evo {rb : Nat} {m m' : Mem} {W W' : World} (hk : Evo rb m m' W W') {e : PEnv} {g : Value} (h : EnvIn rb m W e g) : EnvIn rb m' W' e g := by
  induction h with
  | nil => exact .nil
  | cons hb hv _ ih => exact .cons (hb.evo hk) (hv.evo hk) ih

/-- a run in memory -/
structure Good (rb B : Nat) (inp : List Int) (fuel : Nat) (s : St) (m : Mem) (W : World) : Prop where
  Bs : B ≤ W.heap.size
  rbB : B ≤ rb
  left : s.left ≤ fuel
  fuelB : fuel ≤ 1000000
  bnd : s.out.length + s.left ≤ fuel
  run : ∃ Ai ci, W.heap[rb]? = some (.cells #[.slice Ai (inp.drop s.asked).length ci, .int .i64 fuel, .int .i64 0, .int .i64 0, m.vo, .int .i64 ((fuel : Int) - s.left)] 51 (0, 0)) ∧ IntsIn B W Ai (inp.drop s.asked) ∧ (inp.drop s.asked).length ≤ ci
  out : W.ownsRow B 3 1 m.vo s.out.length (s.out.map (Value.int .i64))
  falen : m.fa.length = s.fns.length
  fns : ∀ i (h : i < s.fns.length), ∃ b c0 c1 c2 c3 kp, m.fa[i]? = some b ∧ At rb m W b (.cells #[.int .i64 s.fns[i].param, c0, c1, c2, c3, kp] 90 (0, 0)) ∧ CoreIn B W s.fns[i].body #[c0, c1, c2, c3] ∧ WT s.fns[i].body ∧ EnvIn rb m W s.fns[i].env kp
  calen : m.ca.length = s.cells.length
  cells : ∀ i (h : i < s.cells.length), ∃ b gv, m.ca[i]? = some b ∧ W.heap[b]? = some (.cells #[gv] 127 (0, 0)) ∧ RepV rb m W s.cells[i] gv
  nodup : m.ca.Nodup
  rbca : rb ∉ m.ca
  rbo : m.vo.ownBlock ≠ some rb
  oca : ∀ b ∈ m.ca, m.vo.ownBlock ≠ some b
  caB : ∀ b ∈ m.ca, B ≤ b
  priv : ∀ k ∈ m.priv, B ≤ k ∧ k < W.heap.size ∧ ¬ m.mut rb k
theorem Good.mutB {rb B : Nat} {inp : List Int} {fuel : Nat} {s : St} {m : Mem} {W : World} (h : Good rb B inp fuel s m W) {k : Nat} (hk : m.mut rb k) : B ≤ k := by
  rcases hk with rfl | hk | hk
  · exact h.rbB
  · exact (h.out.lt k hk).1
  · exact h.caB k hk
theorem Good.privEvo {rb B : Nat} {inp : List Int} {fuel : Nat} {s : St} {m m' : Mem} {W W' : World} (h : Good rb B inp fuel s m W) (hk : Evo rb m m' W W') : ∀ k ∈ m'.priv, B ≤ k ∧ k < W'.heap.size ∧ ¬ m'.mut rb k := fun k hp => by
  obtain ⟨h1, h2, h3⟩ := h.priv k (hk.priv ▸ hp)
  exact ⟨h1, Nat.lt_of_lt_of_le h2 hk.size, fun hm => by rcases hk.fresh k hm with hm | hm; exact h3 hm; omega⟩
theorem Good.stay {rb B : Nat} {inp : List Int} {fuel : Nat} {s : St} {m m' : Mem} {W W' : World} (h : Good rb B inp fuel s m W) (hk : Evo rb m m' W W') : Stay B W W' := fun b o v hb hc =>
  (cell_of_heap (hk.same b (by have := h.Bs; omega) (fun hm => by have := h.mutB hm; omega)) o).trans hc
/-- what lies beside a run may grow -/
theorem Good.below {rb B : Nat} {inp : List Int} {fuel : Nat} {s : St} {m : Mem} {W W' : World} (h : Good rb B inp fuel s m W) (hb : Below W.heap.size W W') : Good rb B inp fuel s m W' := by
  have hk : Evo rb m m W W' := Evo.below hb
  have hst := h.stay hk
  obtain ⟨Ai, ci, hr, hi, hci⟩ := h.run
  refine ⟨Nat.le_trans h.Bs hb.size, h.rbB, h.left, h.fuelB, h.bnd, ⟨Ai, ci, (hb.block rb (Array.getElem?_eq_some_iff.1 hr).1).trans hr, hi.stay hst, hci⟩, ?_, h.falen, ?_, h.calen, ?_, h.nodup, h.rbca, h.rbo, h.oca, h.caB, h.privEvo hk⟩
  · exact h.out.kept ⟨hb.os, hb.tape, hb.output, hb.size, fun i hi _ => hb.block i hi⟩ (row := none) (by cases m.vo.ownBlock <;> simp)
  · intro i hi'
    obtain ⟨b, c0, c1, c2, c3, kp, h1, h2, h3, h4, h5⟩ := h.fns i hi'
    exact ⟨b, c0, c1, c2, c3, kp, h1, h2.evo hk, h3.stay hst, h4, h5.evo hk⟩
  · intro i hi'
    obtain ⟨b, gv, h1, h2, h3⟩ := h.cells i hi'
    exact ⟨b, gv, h1, (hb.block b (Array.getElem?_eq_some_iff.1 h2).1).trans h2, h3.evo hk⟩
end Go.Proofs.YtnolhcdfknjncaaDoor
