/-
  10 texts of this seat in one: H1 H2 H3 H4 H5 H6 H7 H8 H9 H10.
-/
import Derived.Test.YtnobggabjpcbfaaQM2
import Derived.Deep.LoopGhost
import Derived.RangeFuncRecord
import Derived.Laws.EntriesVeiled
import Derived.Maps.AppendAt
import Derived.Maps.OwnSet
import Derived.Recover
import Derived.Deep.RegionLaw
import Derived.Deep.RegionHeld
import Derived.Deep.RegionHeld2
import Derived.BigRegion
/-
  The flat evaluator in memory: what stands for values, environments, a run; what a step of the run may turn.
-/
set_option linter.unusedVariables false
set_option linter.unusedSimpArgs false
namespace Go.Proofs.Ytnobggabjpcbfaa
open Go.RowKit

/-! ### what a run may turn -/
/-- the blocks of closures, of cells; the value of what was printed -/
structure Mem where
  fa : List Nat
  ca : List Nat
  vo : Value
def Mem.mut (rb : Nat) (m : Mem) (k : Nat) : Prop := k = rb ∨ m.vo.ownBlock = some k ∨ k ∈ m.ca
structure Evo (rb : Nat) (m m' : Mem) (W W' : World) : Prop where
  os : W'.os = W.os
  tape : W'.tape = W.tape
  output : W'.output = W.output
  size : W.heap.size ≤ W'.heap.size
  same : ∀ k, k < W.heap.size → ¬ m.mut rb k → W'.heap[k]? = W.heap[k]?
  fresh : ∀ k, m'.mut rb k → m.mut rb k ∨ W.heap.size ≤ k
  fa : m.fa <+: m'.fa
  ca : m.ca <+: m'.ca
theorem Evo.refl (rb : Nat) (m : Mem) (W : World) : Evo rb m m W W := ⟨rfl, rfl, rfl, Nat.le_refl _, fun _ _ _ => rfl, fun _ h => .inl h, List.prefix_refl _, List.prefix_refl _⟩
theorem Evo.trans {rb : Nat} {a b c : Mem} {A B C : World} (h : Evo rb a b A B) (k : Evo rb b c B C) : Evo rb a c A C :=
  ⟨k.os.trans h.os, k.tape.trans h.tape, k.output.trans h.output, Nat.le_trans h.size k.size,
   fun i hi hm => (k.same i (Nat.lt_of_lt_of_le hi h.size) (fun hb => by rcases h.fresh i hb with hb | hb; exact hm hb; omega)).trans (h.same i hi hm),
   fun i hi => by
     rcases k.fresh i hi with hb | hb
     · exact h.fresh i hb
     · exact .inr (Nat.le_trans h.size hb),
   h.fa.trans k.fa, h.ca.trans k.ca⟩
theorem Evo.below {rb : Nat} {m : Mem} {W W' : World} (h : Below W.heap.size W W') : Evo rb m m W W' :=
  ⟨h.os, h.tape, h.output, h.size, fun k hk _ => h.block k hk, fun _ h => .inl h, List.prefix_refl _, List.prefix_refl _⟩
theorem Evo.alloc (rb : Nat) (m : Mem) (W : World) (o : Obj) : Evo rb m m W (W.alloc o) := Evo.below ((Below.refl _ _).alloc (Nat.le_refl _) _)
theorem Evo.setCell {rb : Nat} {m : Mem} (W : World) {b : Nat} (o : Nat) (v : Value) (hb : m.mut rb b) : Evo rb m m W (W.setCell ⟨b, o, none⟩ v) :=
  ⟨rfl, rfl, rfl, by simp [World.setCell], fun k hk hm => Below.heap_setCell W _ _ k (fun e => hm (by subst e; exact hb)), fun _ h => .inl h, List.prefix_refl _, List.prefix_refl _⟩
theorem Evo.drew {rb : Nat} {m m' : Mem} {W W' : World} (h : Evo rb m m' W W') : Evo rb m m' W W'.drew := ⟨h.os, h.tape, h.output, h.size, h.same, h.fresh, h.fa, h.ca⟩
/-- the books may be kept anew: closures and cells more, at new blocks -/
theorem Evo.more {rb : Nat} {m m' m'' : Mem} {W W' : World} (h : Evo rb m m' W W') (hfa : m'.fa <+: m''.fa) (hca : m'.ca <+: m''.ca) (hf : ∀ k, m''.mut rb k → m.mut rb k ∨ W.heap.size ≤ k) : Evo rb m m'' W W' :=
  ⟨h.os, h.tape, h.output, h.size, h.same, hf, h.fa.trans hfa, h.ca.trans hca⟩
/-- a store behind what stood at first -/
theorem Evo.setNew {rb : Nat} {m m' : Mem} {W W' : World} (h : Evo rb m m' W W') {b : Nat} (hb : W.heap.size ≤ b) (o : Nat) (v : Value) : Evo rb m m' W (W'.setCell ⟨b, o, none⟩ v) :=
  ⟨h.os, h.tape, h.output, by simpa [World.setCell] using h.size, fun k hk hm => (Below.heap_setCell W' _ _ k (by show k ≠ b; omega)).trans (h.same k hk hm), h.fresh, h.fa, h.ca⟩

/-- a block that lies and that nothing turns any more -/
def At (rb : Nat) (m : Mem) (W : World) (b : Nat) (o : Obj) : Prop := W.heap[b]? = some o ∧ ¬ m.mut rb b
theorem Evo.still {rb : Nat} {m m' : Mem} {W W' : World} (hk : Evo rb m m' W W') {k : Nat} (h : k < W.heap.size) (hn : ¬ m.mut rb k) : ¬ m'.mut rb k := fun hb => by
  rcases hk.fresh k hb with hb | hb
  · exact hn hb
  · omega
theorem At.evo {rb : Nat} {m m' : Mem} {W W' : World} {b : Nat} {o : Obj} (h : At rb m W b o) (hk : Evo rb m m' W W') : At rb m' W' b o :=
  have hlt := (Array.getElem?_eq_some_iff.1 h.1).1
  ⟨(hk.same b hlt h.2).trans h.1, hk.still hlt h.2⟩

/-- what stands for a value -/
inductive RepV (rb : Nat) (m : Mem) (W : World) : PV → Value → Prop
  | int (n : Int) : RepV rb m W (.int n) (.iface 90 (.int .i64 n))
  | blk {tag : Int} {kids : List PV} {b g cap : Nat} {F : Nat → Value} (hb : At rb m W b (.cells #[.int .i64 tag, .slice (some ⟨g, 0, none⟩) kids.length cap] 94 (0, 0)))
      (hg : g < W.heap.size) (hgm : ¬ m.mut rb g) (hl : kids.length ≤ cap) (h0 : 0 < kids.length) (h8 : kids.length ≤ 255) (hc : ∀ j, j < kids.length → W.cell? ⟨g, j, none⟩ = some (F j)) (hk : ∀ j (h : j < kids.length), RepV rb m W kids[j] (F j)) :
      RepV rb m W (.blk tag kids) (.iface 91 (.pointer (some ⟨b, 0, none⟩)))
  | fn {i b : Nat} (h : m.fa[i]? = some b) : RepV rb m W (.fn i) (.iface 109 (.pointer (some ⟨b, 0, none⟩)))
  | ref {i b : Nat} (h : m.ca[i]? = some b) : RepV rb m W (.ref i) (.iface 117 (.pointer (some ⟨b, 0, none⟩)))
theorem prefix_get {α : Type} {a b : List α} (h : a <+: b) {i : Nat} {x : α} (hx : a[i]? = some x) : b[i]? = some x := by
  obtain ⟨r, rfl⟩ := h
  rw [List.getElem?_append_left (List.getElem?_eq_some_iff.1 hx).1]; exact hx
theorem cell_of_heap {W W' : World} {g : Nat} (h : W'.heap[g]? = W.heap[g]?) (o : Nat) : W'.cell? ⟨g, o, none⟩ = W.cell? ⟨g, o, none⟩ := World.cell?_of_block (w := W) h
theorem RepV.evo {rb : Nat} {m m' : Mem} {W W' : World} (hk : Evo rb m m' W W') {v : PV} {g : Value} (h : RepV rb m W v g) : RepV rb m' W' v g := by
  induction h with
  | int n => exact .int n
  | blk hb hg hgm hl h0 h8 hc _ ih =>
    exact .blk (hb.evo hk) (Nat.lt_of_lt_of_le hg hk.size) (hk.still hg hgm) hl h0 h8 (fun j hj => (cell_of_heap (hk.same _ hg hgm) j).trans (hc j hj)) ih
  | fn h => exact .fn (prefix_get hk.fa h)
  | ref h => exact .ref (prefix_get hk.ca h)
theorem RepV.shape {rb : Nat} {m : Mem} {W : World} {v : PV} {g : Value} (h : RepV rb m W v g) : ∃ T p, g = .iface T p := by
  cases h <;> exact ⟨_, _, rfl⟩
/-- values in a row: what a closure holds, what a right side is handed -/
def RowV (rb : Nat) (m : Mem) (W : World) (l : List PV) (A : Option Addr) : Prop :=
  0 < l.length → ∃ (g o : Nat) (F : Nat → Value), A = some ⟨g, o, none⟩ ∧ g < W.heap.size ∧ ¬ m.mut rb g ∧ (∀ j, j < l.length → W.cell? ⟨g, o + j, none⟩ = some (F j)) ∧ ∀ j (h : j < l.length), RepV rb m W l[j] (F j)
theorem RowV.evo {rb : Nat} {m m' : Mem} {W W' : World} (hk : Evo rb m m' W W') {l : List PV} {A : Option Addr} (h : RowV rb m W l A) : RowV rb m' W' l A := fun h0 => by
  obtain ⟨g, o, F, rfl, hg, hm, hc, hr⟩ := h h0
  exact ⟨g, o, F, rfl, Nat.lt_of_lt_of_le hg hk.size, hk.still hg hm, fun j hj => (cell_of_heap (hk.same _ hg hm) _).trans (hc j hj), fun j hj => (hr j hj).evo hk⟩
/-- what stands for what is known -/
inductive EnvIn (rb : Nat) (m : Mem) (W : World) : PEnv → Value → Prop
  | nil : EnvIn rb m W [] (.pointer none)
  | cons {x : Int} {v : PV} {e : PEnv} {gv nx : Value} {b : Nat} (hb : At rb m W b (.cells #[.int .i64 x, gv, nx] 99 (0, 0))) (hv : RepV rb m W v gv) (he : EnvIn rb m W e nx) : EnvIn rb m W ((x, v) :: e) (.pointer (some ⟨b, 0, none⟩))
theorem EnvIn.evo {rb : Nat} {m m' : Mem} {W W' : World} (hk : Evo rb m m' W W') {e : PEnv} {g : Value} (h : EnvIn rb m W e g) : EnvIn rb m' W' e g := by
  induction h with
  | nil => exact .nil
  | cons hb hv _ ih => exact .cons (hb.evo hk) (hv.evo hk) ih
theorem EnvIn.shape {rb : Nat} {m : Mem} {W : World} {e : PEnv} {g : Value} (h : EnvIn rb m W e g) : ∃ p, g = .pointer p := by
  cases h <;> exact ⟨_, rfl⟩

/-- a run in memory -/
structure Good (rb B : Nat) (p : FlatP) (inp : List Int) (fuel : Nat) (s : FSt) (m : Mem) (W : World) : Prop where
  Bs : B ≤ W.heap.size
  rbB : B ≤ rb
  left : s.left ≤ fuel
  fuelB : fuel ≤ 1000000
  bnd : s.out.length + s.left ≤ fuel
  run : ∃ f0 f1 f2 f3 Ai ci, W.heap[rb]? = some (.cells #[f0, f1, f2, f3, .slice Ai (inp.drop s.asked).length ci, .int .i64 fuel, .int .i64 0, .int .i64 0, m.vo, .int .i64 ((fuel : Int) - s.left)] 62 (0, 0)) ∧ FlatIn B W p #[f0, f1, f2, f3] ∧ IntsIn B W Ai (inp.drop s.asked) ∧ (inp.drop s.asked).length ≤ ci
  out : W.ownsRow B 3 1 m.vo s.out.length (s.out.map (Value.int .i64))
  falen : m.fa.length = s.made.length
  fns : ∀ i (h : i < s.made.length), ∃ b A cap, m.fa[i]? = some b ∧ At rb m W b (.cells #[.int .i64 s.made[i].1, .slice A s.made[i].2.length cap] 111 (0, 0)) ∧ s.made[i].2.length ≤ cap ∧ s.made[i].2.length ≤ 255 ∧ RowV rb m W s.made[i].2 A ∧ 0 ≤ s.made[i].1 ∧ s.made[i].1 < p.funs.length
  calen : m.ca.length = s.cells.length
  cells : ∀ i (h : i < s.cells.length), ∃ b gv, m.ca[i]? = some b ∧ W.heap[b]? = some (.cells #[gv] 118 (0, 0)) ∧ RepV rb m W s.cells[i] gv
  nodup : m.ca.Nodup
  rbca : rb ∉ m.ca
  rbo : m.vo.ownBlock ≠ some rb
  oca : ∀ b ∈ m.ca, m.vo.ownBlock ≠ some b
  caB : ∀ b ∈ m.ca, B ≤ b
section
variable {rb B : Nat} {p : FlatP} {inp : List Int} {fuel : Nat} {s : FSt} {m m' : Mem} {W W' : World}
theorem Good.mutB (h : Good rb B p inp fuel s m W) {k : Nat} (hk : m.mut rb k) : B ≤ k := by
  rcases hk with rfl | hk | hk
  · exact h.rbB
  · exact (h.out.lt k hk).1
  · exact h.caB k hk
theorem Good.mutLt (h : Good rb B p inp fuel s m W) {k : Nat} (hk : m.mut rb k) : k < W.heap.size := by
  rcases hk with rfl | hk | hk
  · obtain ⟨_, _, _, _, _, _, hr, _⟩ := h.run; exact (Array.getElem?_eq_some_iff.1 hr).1
  · exact (h.out.lt k hk).2
  · obtain ⟨i, hi, rfl⟩ := List.getElem_of_mem hk
    obtain ⟨b, gv, h1, h2, _⟩ := h.cells i (by rw [← h.calen]; exact hi)
    rw [List.getElem?_eq_getElem hi] at h1
    cases h1
    exact (Array.getElem?_eq_some_iff.1 h2).1
/-- the run leaves what lies below as it is -/
theorem Good.stay (h : Good rb B p inp fuel s m W) (hk : Evo rb m m' W W') : Below B W W' :=
  ⟨hk.os, hk.tape, hk.output, hk.size, fun k hlt => hk.same k (Nat.lt_of_lt_of_le hlt h.Bs) (fun hm => by have := h.mutB hm; omega)⟩
theorem Good.fnsEvo (hg : Good rb B p inp fuel s m W) (hk : Evo rb m m' W W') : ∀ i (h : i < s.made.length), ∃ b A cap, m'.fa[i]? = some b ∧ At rb m' W' b (.cells #[.int .i64 s.made[i].1, .slice A s.made[i].2.length cap] 111 (0, 0)) ∧ s.made[i].2.length ≤ cap ∧ s.made[i].2.length ≤ 255 ∧ RowV rb m' W' s.made[i].2 A ∧ 0 ≤ s.made[i].1 ∧ s.made[i].1 < p.funs.length := fun i hi => by
  obtain ⟨b, A, cap, h1, h2, h3, h4, h5, h6, h7⟩ := hg.fns i hi
  exact ⟨b, A, cap, prefix_get hk.fa h1, h2.evo hk, h3, h4, h5.evo hk, h6, h7⟩
/-- what lies beside a run may grow -/
theorem Good.below (h : Good rb B p inp fuel s m W) (hb : Below W.heap.size W W') : Good rb B p inp fuel s m W' := by
  have hk : Evo rb m m W W' := Evo.below hb
  have hst := h.stay hk
  obtain ⟨f0, f1, f2, f3, Ai, ci, hr, hf, hi, hci⟩ := h.run
  refine ⟨Nat.le_trans h.Bs hb.size, h.rbB, h.left, h.fuelB, h.bnd, ⟨f0, f1, f2, f3, Ai, ci, (hb.block rb (Array.getElem?_eq_some_iff.1 hr).1).trans hr, hf.kept hst, hi.below hst, hci⟩, ?_, h.falen, h.fnsEvo hk, h.calen, ?_, h.nodup, h.rbca, h.rbo, h.oca, h.caB⟩
  · exact h.out.kept ⟨hb.os, hb.tape, hb.output, hb.size, fun i hi _ => hb.block i hi⟩ (row := none) (by cases m.vo.ownBlock <;> simp)
  · intro i hi'
    obtain ⟨b, gv, h1, h2, h3⟩ := h.cells i hi'
    exact ⟨b, gv, h1, (hb.block b (Array.getElem?_eq_some_iff.1 h2).1).trans h2, h3.evo hk⟩
end

theorem at_cell0 {rb : Nat} {m : Mem} {W : World} {b : Nat} {cs : Array Value} {t : TypeId} {fr : Nat × Nat} (h : At rb m W b (.cells cs t fr)) {i : Nat} {v : Value} (hv : cs[i]? = some v) : W.cell? ⟨b, i, none⟩ = some v := by
  simp [World.cell?, h.1, hv]
theorem at_new {rb : Nat} {m : Mem} {W : World} (hm : ∀ k, m.mut rb k → k < W.heap.size) (cs : Array Value) (t : TypeId) : At rb m (W.alloc (.cells cs t)) W.heap.size (.cells cs t) :=
  ⟨World.alloc_heap_new W _, fun h => by have := hm _ h; omega⟩
theorem at_frozen {rb : Nat} {m : Mem} {W : World} {b : Nat} {cs : Array Value} {t : TypeId} (h : At rb m W b (.cells cs t (0, 0))) (o : Nat) : W.frozen? ⟨b, o, none⟩ = false := by
  simp [World.frozen?, h.1]
theorem cell_behind {W W' : World} (hb : Below W.heap.size W W') {b o : Nat} {v : Value} (h : W.cell? ⟨b, o, none⟩ = some v) : W'.cell? ⟨b, o, none⟩ = some v :=
  (hb.cell (p := ⟨b, o, none⟩) (World.block_lt_of_cell? _ _ h)).trans h
end Go.Proofs.Ytnobggabjpcbfaa

/-
  num.Wrap, num.Do: what is done with two ints.
-/
set_option linter.unusedVariables false
set_option linter.unusedSimpArgs false
namespace Go.Proofs.Ytnobggabjpcbfaa
open Go.RowKit

theorem wrap_any (n : Int) (w : World) :
    Calls Try.prog 72 #[.int .i64 n] w fun e w' => e = .returned (.int .i64 (wrap31 n)) ∧ w = w' := by
  go_enter Try.func72, Try.ntmps72
  go_wp2
  go_ret
  exact ⟨ret_int (wrap31_eq n), rfl⟩
def AsksPost (g : Nat) (w : World) (e : Ending) (w' : World) : Prop :=
  ∃ b, e = .returned (.agg #[.func (.func 78) #[] #[.pointer (some ⟨b, 0, none⟩)]]) ∧ w'.cell? ⟨b, 0, none⟩ = some (.func (.func g) #[] #[]) ∧ w.heap.size ≤ b ∧ Below w.heap.size w w'
theorem asks_any (g : Nat) (w : World) : Calls Try.prog 77 #[.func (.func g) #[] #[]] w (AsksPost g w) := by
  go_enter Try.func77, Try.ntmps77
  go_wp2_with fail
  refine bodyPost_ret (v := .agg #[.func (.func 78) #[] #[.pointer (some ⟨w.heap.size, 0, none⟩)]]) (by simp [results, Try.results77, go_sem]) rfl ?_
  exact ⟨w.heap.size, rfl, by rw [World.cell?_alloc_past _ _ _ (by simp), World.cell?_alloc_at _ _ _ _ rfl]; rfl, Nat.le_refl _, ((Below.refl _ _).alloc (Nat.le_refl _) _).alloc (by simp) _⟩

def DoersPost (w : World) (e : Ending) (w' : World) : Prop :=
  ∃ b6 b7 b8 b9, e = .returned (.agg #[.func (.func 80) #[] #[], .func (.func 81) #[] #[], .func (.func 82) #[] #[], .func (.func 83) #[] #[], .func (.func 84) #[] #[],
      .func (.func 78) #[] #[.pointer (some ⟨b6, 0, none⟩)], .func (.func 78) #[] #[.pointer (some ⟨b7, 0, none⟩)], .func (.func 78) #[] #[.pointer (some ⟨b8, 0, none⟩)], .func (.func 78) #[] #[.pointer (some ⟨b9, 0, none⟩)]]) ∧
    w'.cell? ⟨b6, 0, none⟩ = some (.func (.func 85) #[] #[]) ∧ w'.cell? ⟨b7, 0, none⟩ = some (.func (.func 86) #[] #[]) ∧ w'.cell? ⟨b8, 0, none⟩ = some (.func (.func 87) #[] #[]) ∧ w'.cell? ⟨b9, 0, none⟩ = some (.func (.func 88) #[] #[]) ∧ Below w.heap.size w w'
set_option maxHeartbeats 1000000 in
theorem doers_any (w : World) : Calls Try.prog 76 #[] w (DoersPost w) := by
  go_enter Try.func76, Try.ntmps76
  go_wp2_with fail
  refine (asks_any _ _).mono ?_
  rintro e w1 ⟨b6, rfl, h6, hl6, hb1⟩
  go_wp2_with fail
  refine (asks_any _ _).mono ?_
  rintro e w2 ⟨b7, rfl, h7, hl7, hb2⟩
  go_wp2_with fail
  refine (asks_any _ _).mono ?_
  rintro e w3 ⟨b8, rfl, h8, hl8, hb3⟩
  go_wp2_with fail
  refine (asks_any _ _).mono ?_
  rintro e w4 ⟨b9, rfl, h9, hl9, hb4⟩
  have hw0 : (w.alloc (.cells #[Value.nilFunc, Value.nilFunc, Value.nilFunc, Value.nilFunc, Value.nilFunc, Value.nilFunc, Value.nilFunc, Value.nilFunc, Value.nilFunc] 130)).heap[w.heap.size]? = some (.cells #[Value.nilFunc, Value.nilFunc, Value.nilFunc, Value.nilFunc, Value.nilFunc, Value.nilFunc, Value.nilFunc, Value.nilFunc, Value.nilFunc] 130) := World.alloc_heap_new w _
  have s1 := hb1.size
  have s2 := hb2.size
  have s3 := hb3.size
  have s4 := hb4.size
  simp only [World.size_alloc] at s1 hl6
  have hw4 : w4.heap[w.heap.size]? = some (.cells #[Value.nilFunc, Value.nilFunc, Value.nilFunc, Value.nilFunc, Value.nilFunc, Value.nilFunc, Value.nilFunc, Value.nilFunc, Value.nilFunc] 130) :=
    (hb4.block _ (by omega)).trans ((hb3.block _ (by omega)).trans ((hb2.block _ (by omega)).trans ((hb1.block _ (by simp)).trans hw0)))
  have k0 : w4.cell? ⟨w.heap.size, 0, none⟩ = some .nilFunc := by simp [World.cell?, hw4]
  have k1 : w4.cell? ⟨w.heap.size, 1, none⟩ = some .nilFunc := by simp [World.cell?, hw4]
  have k2 : w4.cell? ⟨w.heap.size, 2, none⟩ = some .nilFunc := by simp [World.cell?, hw4]
  have k3 : w4.cell? ⟨w.heap.size, 3, none⟩ = some .nilFunc := by simp [World.cell?, hw4]
  have k4 : w4.cell? ⟨w.heap.size, 4, none⟩ = some .nilFunc := by simp [World.cell?, hw4]
  have k5 : w4.cell? ⟨w.heap.size, 5, none⟩ = some .nilFunc := by simp [World.cell?, hw4]
  have k6 : w4.cell? ⟨w.heap.size, 6, none⟩ = some .nilFunc := by simp [World.cell?, hw4]
  have k7 : w4.cell? ⟨w.heap.size, 7, none⟩ = some .nilFunc := by simp [World.cell?, hw4]
  have k8 : w4.cell? ⟨w.heap.size, 8, none⟩ = some .nilFunc := by simp [World.cell?, hw4]
  have fz : ∀ i, w4.frozen? ⟨w.heap.size, i, none⟩ = false := fun i => by simp [World.frozen?, hw4]
  have hB4 : Below w.heap.size w w4 := ((Below.refl _ w).alloc (Nat.le_refl _) _).trans ((hb1.mono (by simp)).trans ((hb2.mono (by omega)).trans ((hb3.mono (by omega)).trans (hb4.mono (by omega)))))
  have q6 := cell_behind hb4 (cell_behind hb3 (cell_behind hb2 h6))
  have q7 := cell_behind hb4 (cell_behind hb3 h7)
  have q8 := cell_behind hb4 h8
  have HB := Lib.hid hB4
  have H6 := Lib.hid q6
  have H7 := Lib.hid q7
  have H8 := Lib.hid q8
  have H9 := Lib.hid h9
  clear hb1 hb2 hb3 hb4 h6 h7 h8 h9 q6 q7 q8 hB4 hw0 hw4
  go_wp2_with fail
  refine bodyPost_ret (v := .agg #[.func (.func 80) #[] #[], .func (.func 81) #[] #[], .func (.func 82) #[] #[], .func (.func 83) #[] #[], .func (.func 84) #[] #[],
      .func (.func 78) #[] #[.pointer (some ⟨b6, 0, none⟩)], .func (.func 78) #[] #[.pointer (some ⟨b7, 0, none⟩)], .func (.func 78) #[] #[.pointer (some ⟨b8, 0, none⟩)], .func (.func 78) #[] #[.pointer (some ⟨b9, 0, none⟩)]])
    (by simp [results, Try.results76, go_sem, k0, k1, k2, k3, k4, k5, k6, k7, k8]) rfl ?_
  have hne : ∀ (V : World) (o : Nat) (u : Value) (b : Nat), w.heap.size < b → (V.setCell ⟨w.heap.size, o, none⟩ u).cell? ⟨b, 0, none⟩ = V.cell? ⟨b, 0, none⟩ := fun V o u b hb => World.cell?_of_block (w := V) (Below.heap_setCell V _ _ b (by show b ≠ w.heap.size; omega))
  refine ⟨b6, b7, b8, b9, rfl, ?_, ?_, ?_, ?_, ?_⟩
  · rw [hne _ _ _ _ (by omega), hne _ _ _ _ (by omega), hne _ _ _ _ (by omega), hne _ _ _ _ (by omega), hne _ _ _ _ (by omega), hne _ _ _ _ (by omega), hne _ _ _ _ (by omega), hne _ _ _ _ (by omega), hne _ _ _ _ (by omega)]; exact H6.out
  · rw [hne _ _ _ _ (by omega), hne _ _ _ _ (by omega), hne _ _ _ _ (by omega), hne _ _ _ _ (by omega), hne _ _ _ _ (by omega), hne _ _ _ _ (by omega), hne _ _ _ _ (by omega), hne _ _ _ _ (by omega), hne _ _ _ _ (by omega)]; exact H7.out
  · rw [hne _ _ _ _ (by omega), hne _ _ _ _ (by omega), hne _ _ _ _ (by omega), hne _ _ _ _ (by omega), hne _ _ _ _ (by omega), hne _ _ _ _ (by omega), hne _ _ _ _ (by omega), hne _ _ _ _ (by omega), hne _ _ _ _ (by omega)]; exact H8.out
  · rw [hne _ _ _ _ (by omega), hne _ _ _ _ (by omega), hne _ _ _ _ (by omega), hne _ _ _ _ (by omega), hne _ _ _ _ (by omega), hne _ _ _ _ (by omega), hne _ _ _ _ (by omega), hne _ _ _ _ (by omega), hne _ _ _ _ (by omega)]; exact H9.out
  · exact ((((((((HB.out.setCell (p := ⟨_, _, none⟩) (Nat.le_refl _) _).setCell (p := ⟨_, _, none⟩) (Nat.le_refl _) _).setCell (p := ⟨_, _, none⟩) (Nat.le_refl _) _).setCell (p := ⟨_, _, none⟩) (Nat.le_refl _) _).setCell (p := ⟨_, _, none⟩) (Nat.le_refl _) _).setCell (p := ⟨_, _, none⟩) (Nat.le_refl _) _).setCell (p := ⟨_, _, none⟩) (Nat.le_refl _) _).setCell (p := ⟨_, _, none⟩) (Nat.le_refl _) _).setCell (p := ⟨_, _, none⟩) (Nat.le_refl _) _



theorem doer_at0 (x0 x1 x2 x3 x4 x5 x6 x7 x8 : Value) (w : World) : (Instr.index 130 (.agg #[x0, x1, x2, x3, x4, x5, x6, x7, x8]) (.int .i64 0)).run Try.prog w = .ok (.agg #[x0]) w := by kernel_rfl
theorem doer_at1 (x0 x1 x2 x3 x4 x5 x6 x7 x8 : Value) (w : World) : (Instr.index 130 (.agg #[x0, x1, x2, x3, x4, x5, x6, x7, x8]) (.int .i64 1)).run Try.prog w = .ok (.agg #[x1]) w := by kernel_rfl
theorem doer_at2 (x0 x1 x2 x3 x4 x5 x6 x7 x8 : Value) (w : World) : (Instr.index 130 (.agg #[x0, x1, x2, x3, x4, x5, x6, x7, x8]) (.int .i64 2)).run Try.prog w = .ok (.agg #[x2]) w := by kernel_rfl
theorem doer_at3 (x0 x1 x2 x3 x4 x5 x6 x7 x8 : Value) (w : World) : (Instr.index 130 (.agg #[x0, x1, x2, x3, x4, x5, x6, x7, x8]) (.int .i64 3)).run Try.prog w = .ok (.agg #[x3]) w := by kernel_rfl
theorem doer_at4 (x0 x1 x2 x3 x4 x5 x6 x7 x8 : Value) (w : World) : (Instr.index 130 (.agg #[x0, x1, x2, x3, x4, x5, x6, x7, x8]) (.int .i64 4)).run Try.prog w = .ok (.agg #[x4]) w := by kernel_rfl
theorem doer_at5 (x0 x1 x2 x3 x4 x5 x6 x7 x8 : Value) (w : World) : (Instr.index 130 (.agg #[x0, x1, x2, x3, x4, x5, x6, x7, x8]) (.int .i64 5)).run Try.prog w = .ok (.agg #[x5]) w := by kernel_rfl
theorem doer_at6 (x0 x1 x2 x3 x4 x5 x6 x7 x8 : Value) (w : World) : (Instr.index 130 (.agg #[x0, x1, x2, x3, x4, x5, x6, x7, x8]) (.int .i64 6)).run Try.prog w = .ok (.agg #[x6]) w := by kernel_rfl
theorem doer_at7 (x0 x1 x2 x3 x4 x5 x6 x7 x8 : Value) (w : World) : (Instr.index 130 (.agg #[x0, x1, x2, x3, x4, x5, x6, x7, x8]) (.int .i64 7)).run Try.prog w = .ok (.agg #[x7]) w := by kernel_rfl
theorem doer_at8 (x0 x1 x2 x3 x4 x5 x6 x7 x8 : Value) (w : World) : (Instr.index 130 (.agg #[x0, x1, x2, x3, x4, x5, x6, x7, x8]) (.int .i64 8)).run Try.prog w = .ok (.agg #[x8]) w := by kernel_rfl
theorem doer_do (fn : Fn) (fi ca : Array Value) (w : World) : (Instr.field 129 (.agg #[.func fn fi ca]) 0).run Try.prog w = .ok (.func fn fi ca) w := by kernel_rfl
attribute [go_sem ↓] doer_do doer_at0 doer_at1 doer_at2 doer_at3 doer_at4 doer_at5 doer_at6 doer_at7 doer_at8

def DoPost (p a b : Int) (w : World) (e : Ending) (w' : World) : Prop := (∃ n, doP p a b = some n ∧ e = .returned (.tuple #[.int .i64 n, .int .i64 0]) ∧ Below w.heap.size w w') ∨ (doP p a b = none ∧ e = .returned (.tuple #[.int .i64 0, .int .i64 2]) ∧ Below w.heap.size w w')
theorem wrap31_wrap64 (n : Int) : wrap31 (wrap64 n) = wrap31 n := by unfold wrap31 wrap64; omega
theorem tup_int {a b c d : Int} (h1 : a = b) (h2 : c = d) : Ending.returned (.tuple #[.int .i64 a, .int .i64 c]) = .returned (.tuple #[.int .i64 b, .int .i64 d]) := by rw [h1, h2]
theorem doP_1 (a b : Int) : doP 1 a b = some (wrap31 (wrap31 a + wrap31 b)) := by simp [doP]
theorem doP_2 (a b : Int) : doP 2 a b = some (wrap31 (wrap31 a - wrap31 b)) := by simp [doP]
theorem doP_3 (a b : Int) : doP 3 a b = some (wrap31 (wrap31 a * wrap31 b)) := by simp [doP]
theorem doP_4 (a b : Int) (h : wrap31 b ≠ 0) : doP 4 a b = some (wrap31 ((wrap31 a).tdiv (wrap31 b))) := by simp [doP, h]
theorem doP_5 (a b : Int) (h : wrap31 b ≠ 0) : doP 5 a b = some (wrap31 ((wrap31 a).tmod (wrap31 b))) := by simp [doP, h]
theorem doP_6 (a b : Int) : doP 6 a b = some (wrap31 (if wrap31 a = wrap31 b then 1 else 0)) := by simp [doP]
theorem doP_7 (a b : Int) : doP 7 a b = some (wrap31 (if wrap31 a ≠ wrap31 b then 1 else 0)) := by simp [doP]
theorem doP_8 (a b : Int) : doP 8 a b = some (wrap31 (if wrap31 a < wrap31 b then 1 else 0)) := by simp [doP]
theorem doP_9 (a b : Int) : doP 9 a b = some (wrap31 (if wrap31 a ≤ wrap31 b then 1 else 0)) := by simp [doP]
set_option maxRecDepth 100000 in
set_option maxHeartbeats 1000000 in
theorem do_small (p a b : Int) (hp : p = 1 ∨ p = 2 ∨ p = 3) (w : World) : Calls Try.prog 74 #[.int .i64 p, .int .i64 a, .int .i64 b] w (DoPost p a b w) := by
  rcases hp with rfl | rfl | rfl
  all_goals
    go_enter Try.func74, Try.ntmps74
    go_wp2_with (first | (go_at_call 72; refine (wrap_any _ _).mono ?_; rintro e w' ⟨rfl, rfl⟩) | (go_at_call 76; refine (doers_any _).mono ?_; rintro e w1 ⟨b6, b7, b8, b9, rfl, h6, h7, h8, h9, hb1⟩) | (go_at_call 80; go_in) | (go_at_call 81; go_in) | (go_at_call 82; go_in))
    go_ret2
    first | exact .inl ⟨_, doP_1 a b, tup_int (by rw [wrap31_wrap64]) rfl, hb1⟩ | exact .inl ⟨_, doP_2 a b, tup_int (by rw [wrap31_wrap64]) rfl, hb1⟩ | exact .inl ⟨_, doP_3 a b, tup_int (by rw [wrap31_wrap64]) rfl, hb1⟩
set_option maxRecDepth 100000 in
set_option maxHeartbeats 1000000 in
theorem do_div (p a b : Int) (hp : p = 4 ∨ p = 5) (w : World) : Calls Try.prog 74 #[.int .i64 p, .int .i64 a, .int .i64 b] w (DoPost p a b w) := by
  by_cases hb : wrap31 b = 0
  · have hd : doP p a b = none := by simp [doP, hb, hp]
    have hb' : (wrap31 b == 0) = true := by simpa using hb
    have HD := Lib.hid hd
    clear hd
    rcases hp with rfl | rfl
    all_goals
      go_enter Try.func74, Try.ntmps74
      go_wp2_with (first | (go_at_call 72; refine (wrap_any _ _).mono ?_; rintro e w' ⟨rfl, rfl⟩) | (go_at_call 76; refine (doers_any _).mono ?_; rintro e w1 ⟨b6, b7, b8, b9, rfl, h6, h7, h8, h9, hb1⟩) )
      go_ret2
      exact .inr ⟨HD.out, rfl, Below.refl _ _⟩
  · have hb' : (wrap31 b == 0) = false := by simpa using hb
    rcases hp with rfl | rfl
    all_goals
      go_enter Try.func74, Try.ntmps74
      go_wp2_with (first | (go_at_call 72; refine (wrap_any _ _).mono ?_; rintro e w' ⟨rfl, rfl⟩) | (go_at_call 76; refine (doers_any _).mono ?_; rintro e w1 ⟨b6, b7, b8, b9, rfl, h6, h7, h8, h9, hb1⟩) | (go_at_call 83; go_in) | (go_at_call 84; go_in))
      go_ret2
      first | exact .inl ⟨_, doP_4 a b hb, tup_int (by first | rw [wrap31_wrap64] | rfl) rfl, hb1⟩ | exact .inl ⟨_, doP_5 a b hb, tup_int (by first | rw [wrap31_wrap64] | rfl) rfl, hb1⟩
set_option maxRecDepth 100000 in
set_option maxHeartbeats 2000000 in
theorem do_cmp (p a b : Int) (hp : p = 6 ∨ p = 7 ∨ p = 8 ∨ p = 9) (w : World) : Calls Try.prog 74 #[.int .i64 p, .int .i64 a, .int .i64 b] w (DoPost p a b w) := by
  rcases hp with rfl | rfl | rfl | rfl
  all_goals
    go_enter Try.func74, Try.ntmps74
    go_wp2_with (first | (go_at_call 72; refine (wrap_any _ _).mono ?_; rintro e w' ⟨rfl, rfl⟩) | (go_at_call 76; refine (doers_any _).mono ?_; rintro e w1 ⟨b6, b7, b8, b9, rfl, h6, h7, h8, h9, hb1⟩) | (go_at_call 78; go_in) | (go_at_call 79; go_in) | (go_at_call 85; go_in) | (go_at_call 86; go_in) | (go_at_call 87; go_in) | (go_at_call 88; go_in))
    all_goals
      go_ret2
      first
        | exact .inl ⟨_, doP_6 a b, tup_int (by simp_all) rfl, hb1⟩
        | exact .inl ⟨_, doP_7 a b, tup_int (by simp_all) rfl, hb1⟩
        | exact .inl ⟨_, doP_8 a b, tup_int (by first | rw [if_pos (by omega)] | rw [if_neg (by omega)]) rfl, hb1⟩
        | exact .inl ⟨_, doP_9 a b, tup_int (by first | rw [if_pos (by omega)] | rw [if_neg (by omega)]) rfl, hb1⟩

theorem do_any (p a b : Int) (h1 : 1 ≤ p) (h2 : p ≤ 9) (w : World) : Calls Try.prog 74 #[.int .i64 p, .int .i64 a, .int .i64 b] w (DoPost p a b w) := by
  by_cases h3 : p = 1 ∨ p = 2 ∨ p = 3
  · exact do_small p a b h3 w
  by_cases h4 : p = 4 ∨ p = 5
  · exact do_div p a b h4 w
  exact do_cmp p a b (by omega) w

end Go.Proofs.Ytnobggabjpcbfaa

/-
  The small functions of the flat evaluator: stuck, key, number.
-/
set_option linter.unusedVariables false
set_option linter.unusedSimpArgs false
namespace Go.Proofs.Ytnobggabjpcbfaa
open Go.RowKit

/-- what is thrown where a run stops; where something is raised -/
def stopV (k : Int) : List PanicEntry := [{ v := .iface 76 (.agg #[.int .i64 k]), recovered := false }]
def raisedV (g : Value) : List PanicEntry := [{ v := .iface 80 (.agg #[g]), recovered := false }]

/-! ### type assertions -/
theorem ta_i_i (x : Value) (w : World) : (Instr.typeAssert (.iface 90 x) 78 90 true).run Try.prog w = .ok (.tuple #[x, .bool true]) w := by kernel_rfl
theorem ta_b_i (x : Value) (w : World) : (Instr.typeAssert (.iface 91 x) 78 90 true).run Try.prog w = .ok (.tuple #[.int .i64 0, .bool false]) w := by kernel_rfl
theorem ta_f_i (x : Value) (w : World) : (Instr.typeAssert (.iface 109 x) 78 90 true).run Try.prog w = .ok (.tuple #[.int .i64 0, .bool false]) w := by kernel_rfl
theorem ta_c_i (x : Value) (w : World) : (Instr.typeAssert (.iface 117 x) 78 90 true).run Try.prog w = .ok (.tuple #[.int .i64 0, .bool false]) w := by kernel_rfl
theorem ta_i_b (x : Value) (w : World) : (Instr.typeAssert (.iface 90 x) 78 91 true).run Try.prog w = .ok (.tuple #[.pointer none, .bool false]) w := by kernel_rfl
theorem ta_b_b (x : Value) (w : World) : (Instr.typeAssert (.iface 91 x) 78 91 true).run Try.prog w = .ok (.tuple #[x, .bool true]) w := by kernel_rfl
theorem ta_f_b (x : Value) (w : World) : (Instr.typeAssert (.iface 109 x) 78 91 true).run Try.prog w = .ok (.tuple #[.pointer none, .bool false]) w := by kernel_rfl
theorem ta_c_b (x : Value) (w : World) : (Instr.typeAssert (.iface 117 x) 78 91 true).run Try.prog w = .ok (.tuple #[.pointer none, .bool false]) w := by kernel_rfl
theorem ta_i_f (x : Value) (w : World) : (Instr.typeAssert (.iface 90 x) 78 109 true).run Try.prog w = .ok (.tuple #[.pointer none, .bool false]) w := by kernel_rfl
theorem ta_b_f (x : Value) (w : World) : (Instr.typeAssert (.iface 91 x) 78 109 true).run Try.prog w = .ok (.tuple #[.pointer none, .bool false]) w := by kernel_rfl
theorem ta_f_f (x : Value) (w : World) : (Instr.typeAssert (.iface 109 x) 78 109 true).run Try.prog w = .ok (.tuple #[x, .bool true]) w := by kernel_rfl
theorem ta_c_f (x : Value) (w : World) : (Instr.typeAssert (.iface 117 x) 78 109 true).run Try.prog w = .ok (.tuple #[.pointer none, .bool false]) w := by kernel_rfl
theorem ta_i_c (x : Value) (w : World) : (Instr.typeAssert (.iface 90 x) 78 117 true).run Try.prog w = .ok (.tuple #[.pointer none, .bool false]) w := by kernel_rfl
theorem ta_b_c (x : Value) (w : World) : (Instr.typeAssert (.iface 91 x) 78 117 true).run Try.prog w = .ok (.tuple #[.pointer none, .bool false]) w := by kernel_rfl
theorem ta_f_c (x : Value) (w : World) : (Instr.typeAssert (.iface 109 x) 78 117 true).run Try.prog w = .ok (.tuple #[.pointer none, .bool false]) w := by kernel_rfl
theorem ta_c_c (x : Value) (w : World) : (Instr.typeAssert (.iface 117 x) 78 117 true).run Try.prog w = .ok (.tuple #[x, .bool true]) w := by kernel_rfl
theorem ta_s_s (x : Value) (w : World) : (Instr.typeAssert (.iface 76 x) 20 76 true).run Try.prog w = .ok (.tuple #[x, .bool true]) w := by kernel_rfl
theorem ta_s_r (x : Value) (w : World) : (Instr.typeAssert (.iface 76 x) 20 80 true).run Try.prog w = .ok (.tuple #[.agg #[.nilIface], .bool false]) w := by kernel_rfl
theorem ta_r_r (x : Value) (w : World) : (Instr.typeAssert (.iface 80 x) 20 80 true).run Try.prog w = .ok (.tuple #[x, .bool true]) w := by kernel_rfl
theorem ta_r_s (x : Value) (w : World) : (Instr.typeAssert (.iface 80 x) 20 76 true).run Try.prog w = .ok (.tuple #[.agg #[.int .i64 0], .bool false]) w := by kernel_rfl
attribute [go_sem ↓] ta_i_i ta_b_i ta_f_i ta_c_i ta_i_b ta_b_b ta_f_b ta_c_b ta_i_f ta_b_f ta_f_f ta_c_f ta_i_c ta_b_c ta_f_c ta_c_c ta_s_s ta_s_r ta_r_r ta_r_s

theorem stuck_any (w : World) : Calls Try.prog 50 #[] w fun e w' => e = .panicked (stopV 4) ∧ w = w' := by
  go_enter Try.func50, Try.ntmps50
  go_wp2
  exact ⟨rfl, rfl, rfl⟩

theorem key_int (n : Int) (w : World) : Calls Try.prog 35 #[.iface 90 (.int .i64 n)] w fun e w' => e = .returned (.int .i64 n) ∧ w = w' := by
  go_enter Try.func35, Try.ntmps35
  go_wp2_with fail
  go_ret
  exact ⟨rfl, rfl⟩
theorem key_blk (b : Nat) (n : Int) (w : World) (hc : w.cell? ⟨b, 0, none⟩ = some (.int .i64 n)) : Calls Try.prog 35 #[.iface 91 (.pointer (some ⟨b, 0, none⟩))] w fun e w' => e = .returned (.int .i64 n) ∧ w = w' := by
  go_enter Try.func35, Try.ntmps35
  go_wp2_with fail
  go_ret
  exact ⟨rfl, rfl⟩
theorem key_fn (a : Value) (w : World) : Calls Try.prog 35 #[.iface 109 a] w fun e w' => e = .panicked (stopV 4) ∧ w = w' := by
  go_enter Try.func35, Try.ntmps35
  go_wp2_with (go_at_call 50; refine (stuck_any _).mono ?_; rintro e w' ⟨rfl, rfl⟩)
  exact ⟨rfl, rfl, rfl⟩
theorem key_ref (a : Value) (w : World) : Calls Try.prog 35 #[.iface 117 a] w fun e w' => e = .panicked (stopV 4) ∧ w = w' := by
  go_enter Try.func35, Try.ntmps35
  go_wp2_with (go_at_call 50; refine (stuck_any _).mono ?_; rintro e w' ⟨rfl, rfl⟩)
  exact ⟨rfl, rfl, rfl⟩
/-- how a question of a value for a number ends -/
def AskedPost (o : Option Int) (w : World) (e : Ending) (w' : World) : Prop := (∃ n, o = some n ∧ e = .returned (.int .i64 n) ∧ w = w') ∨ (o = none ∧ e = .panicked (stopV 4) ∧ w = w')
theorem key_any {rb : Nat} {m : Mem} {W : World} {v : PV} {g : Value} (h : RepV rb m W v g) : Calls Try.prog 35 #[g] W (AskedPost (keyOf v) W) := by
  cases h with
  | int n => exact (key_int n W).mono fun e w' ⟨h1, h2⟩ => .inl ⟨n, rfl, h1, h2⟩
  | @blk tag kids b g cap F hb hg hgm hl h0 h8 hc hk => exact (key_blk b tag W (at_cell0 hb rfl)).mono fun e w' ⟨h1, h2⟩ => .inl ⟨tag, rfl, h1, h2⟩
  | fn h => exact (key_fn _ W).mono fun e w' ⟨h1, h2⟩ => .inr ⟨rfl, h1, h2⟩
  | ref h => exact (key_ref _ W).mono fun e w' ⟨h1, h2⟩ => .inr ⟨rfl, h1, h2⟩

theorem number_int (n : Int) (w : World) : Calls Try.prog 71 #[.iface 90 (.int .i64 n)] w fun e w' => e = .returned (.int .i64 n) ∧ w = w' := by
  go_enter Try.func71, Try.ntmps71
  go_wp2_with fail
  go_ret
  exact ⟨rfl, rfl⟩
theorem number_other (T : TypeId) (hT : T = 91 ∨ T = 109 ∨ T = 117) (a : Value) (w : World) : Calls Try.prog 71 #[.iface T a] w fun e w' => e = .panicked (stopV 4) ∧ w = w' := by
  rcases hT with rfl | rfl | rfl
  all_goals
    go_enter Try.func71, Try.ntmps71
    go_wp2_with (go_at_call 50; refine (stuck_any _).mono ?_; rintro e w' ⟨rfl, rfl⟩)
    exact ⟨rfl, rfl, rfl⟩
theorem cnumber_any {rb : Nat} {m : Mem} {W : World} {v : PV} {g : Value} (h : RepV rb m W v g) : Calls Try.prog 71 #[g] W (AskedPost (numOf v) W) := by
  cases h with
  | int n => exact (number_int n W).mono fun e w' ⟨h1, h2⟩ => .inl ⟨n, rfl, h1, h2⟩
  | blk hb hg hgm hl h0 h8 hc hk => exact (number_other _ (.inl rfl) _ W).mono fun e w' ⟨h1, h2⟩ => .inr ⟨rfl, h1, h2⟩
  | fn h => exact (number_other _ (.inr (.inl rfl)) _ W).mono fun e w' ⟨h1, h2⟩ => .inr ⟨rfl, h1, h2⟩
  | ref h => exact (number_other _ (.inr (.inr rfl)) _ W).mono fun e w' ⟨h1, h2⟩ => .inr ⟨rfl, h1, h2⟩

end Go.Proofs.Ytnobggabjpcbfaa

/-
  The flat evaluator: what an atom is.
-/
set_option linter.unusedVariables false
set_option linter.unusedSimpArgs false
namespace Go.Proofs.Ytnobggabjpcbfaa
open Go.RowKit

theorem lookup_cons (x y : Int) (v : PV) (e : PEnv) : lookup ((y, v) :: e) x = if y = x then some v else lookup e x := by
  unfold lookup
  by_cases h : y = x
  · simp [h]
  · have : (y == x) = false := by simpa using h
    simp [List.find?_cons, this, h]
/-- what is asked of the world W in which it is known, at the world V of the call -/
def AtomPost (rb : Nat) (m : Mem) (W V : World) (o : Option PV) (e : Ending) (w' : World) : Prop := (∃ v T x, o = some v ∧ e = .returned (.iface T x) ∧ RepV rb m W v (.iface T x) ∧ Below V.heap.size V w') ∨ (o = none ∧ e = .panicked (stopV 4) ∧ Below V.heap.size V w')
theorem atom_int {rb : Nat} {m : Mem} {W V : World} (g : Value) (n : Int) : Calls Try.prog 54 #[g, .agg #[.bool false, .int .i64 n]] V (AtomPost rb m W V (some (.int n))) := by
  obtain ⟨W0, hW0⟩ : ∃ W0, V.alloc (.cells #[.bool false, .int .i64 n] 25) = W0 := ⟨_, rfl⟩
  have hb0 : Below V.heap.size V W0 := by rw [← hW0]; exact (Below.refl _ _).alloc (Nat.le_refl _) _
  have e0 : W0.cell? ⟨V.heap.size, 0, none⟩ = some (.bool false) := by rw [← hW0, World.cell?_alloc_at _ _ _ _ rfl]; rfl
  have e1 : W0.cell? ⟨V.heap.size, 1, none⟩ = some (.int .i64 n) := by rw [← hW0, World.cell?_alloc_at _ _ _ _ rfl]; rfl
  have HB := Lib.hid hb0
  clear hb0
  go_enter Try.func54, Try.ntmps54
  go_wp2_with fail
  go_ret
  exact .inl ⟨.int n, _, _, rfl, rfl, .int n, HB.out⟩
set_option maxHeartbeats 1000000 in
theorem atom_var {rb : Nat} {m : Mem} {W V : World} (hWV : Below W.heap.size W V) {env : PEnv} {g : Value} (h : EnvIn rb m W env g) (x : Int) : Calls Try.prog 54 #[g, .agg #[.bool true, .int .i64 x]] V (AtomPost rb m W V (lookup env x)) := by
  obtain ⟨W0, hW0⟩ : ∃ W0, V.alloc (.cells #[.bool true, .int .i64 x] 25) = W0 := ⟨_, rfl⟩
  have hb0 : Below V.heap.size V W0 := by rw [← hW0]; exact (Below.refl _ _).alloc (Nat.le_refl _) _
  have hs0 : V.heap.size < W0.heap.size := by rw [← hW0]; simp
  have e0 : W0.cell? ⟨V.heap.size, 0, none⟩ = some (.bool true) := by rw [← hW0, World.cell?_alloc_at _ _ _ _ rfl]; rfl
  have e1 : W0.cell? ⟨V.heap.size, 1, none⟩ = some (.int .i64 x) := by rw [← hW0, World.cell?_alloc_at _ _ _ _ rfl]; rfl
  have HB0 := Lib.hid hb0
  have HS0 := Lib.hid hs0
  have HWV := Lib.hid hWV
  have HEN := Lib.hid h
  clear hb0 hs0 h hWV
  go_enter Try.func54, Try.ntmps54
  go_wp2_with fail
  go_loopg [0] env.length (fun k p wr => Hid (Below W0.heap.size W0 wr) ∧ ∃ e' : PEnv, Hid (EnvIn rb m W e' p) ∧ Hid (e'.length = k) ∧ Hid (lookup env x = lookup e' x))
  case atStart => exact ⟨Lib.hid (Below.refl _ _), env, HEN, Lib.hid rfl, Lib.hid rfl⟩
  case round =>
    obtain ⟨HW, e', HE, HK, HL⟩ := hrel
    have q1 : wr.cell? ⟨V.heap.size, 1, none⟩ = some (.int .i64 x) := (HW.out.cell (p := ⟨V.heap.size, 1, none⟩) HS0.out).trans e1
    have hWr : Below V.heap.size V wr := HB0.out.trans (HW.out.mono (Nat.le_of_lt HS0.out))
    have HWR := Lib.hid hWr
    clear hWr
    have he := HE.out
    cases he with
    | nil =>
      clear HE
      go_wp2_with (go_at_call 50; refine (stuck_any _).mono ?_; rintro e w' ⟨rfl, rfl⟩)
      exact ⟨rfl, .inr ⟨HL.out, rfl, HWR.out⟩⟩
    | @cons y v e gv nx b hb hv he =>
      clear HE
      have hev : Evo rb m m W wr := Evo.below (HWV.out.trans (HWR.out.mono HWV.out.size))
      have c0 := at_cell0 (hb.evo hev) (i := 0) rfl
      have c1 := at_cell0 (hb.evo hev) (i := 1) rfl
      have c2 := at_cell0 (hb.evo hev) (i := 2) rfl
      obtain ⟨T, gx, rfl⟩ := hv.shape
      obtain ⟨pn, rfl⟩ := he.shape
      have HV := Lib.hid hv
      have HE := Lib.hid he
      simp only [List.getElem_toArray, List.getElem_cons_zero, List.getElem_cons_succ] at c0 c1 c2
      clear hev hb hv he
      by_cases hx : y = x
      · have hx' : (y == x) = true := by simpa using hx
        have hl2 := Lib.hid (HL.out.trans ((lookup_cons x y v e).trans (if_pos hx)))
        have HX := Lib.hid hx
        clear hx
        go_wp2_with fail
        go_quiet (fail)
        go_wp2_with fail
        go_ret
        exact .inl ⟨v, _, _, hl2.out, rfl, HV.out, below_drewN HWR.out _⟩
      · have hx' : (y == x) = false := by simpa using hx
        have hl2 := Lib.hid (HL.out.trans ((lookup_cons x y v e).trans (if_neg hx)))
        go_wp2_with fail
        go_quiet (fail)
        go_wp2_with fail
        go_roundg e.length
        case measure => have := HK.out; simp at this; omega
        case rel => exact ⟨Lib.hid (below_drewN HW.out _), e, HE, Lib.hid rfl, hl2⟩
theorem atom_any {rb : Nat} {m : Mem} {W V : World} (hWV : Below W.heap.size W V) {env : PEnv} {g : Value} (h : EnvIn rb m W env g) (a : Atm) : Calls Try.prog 54 #[g, .agg #[.bool a.v, .int .i64 a.n]] V (AtomPost rb m W V (atomP env a)) := by
  obtain ⟨v, n⟩ := a
  cases v
  · exact atom_int g n
  · exact atom_var hWV h n
end Go.Proofs.Ytnobggabjpcbfaa

/-
  The flat evaluator: what atoms are, from the left.
-/
set_option linter.unusedVariables false
set_option linter.unusedSimpArgs false
namespace Go.Proofs.Ytnobggabjpcbfaa
open Go.RowKit

theorem infoVal : (Try.prog.info? 78).map (fun i => (i.zero, i.size, i.bytes)) = some (some .nilIface, 1, 16) := by kernel_rfl
theorem undVals : Try.prog.underlying 92 = some (.slice 78) := by kernel_rfl
/-- values in a new row -/
def RowZ (rb : Nat) (m : Mem) (W : World) (l : List PV) (A : Option Addr) : Prop :=
  0 < l.length → ∃ (g : Nat) (F : Nat → Value), A = some ⟨g, 0, none⟩ ∧ g < W.heap.size ∧ ¬ m.mut rb g ∧ (∀ j, j < l.length → W.cell? ⟨g, j, none⟩ = some (F j)) ∧ ∀ j (h : j < l.length), RepV rb m W l[j] (F j)
theorem RowZ.row {rb : Nat} {m : Mem} {W : World} {l : List PV} {A : Option Addr} (h : RowZ rb m W l A) : RowV rb m W l A := fun h0 => by
  obtain ⟨g, F, h1, h2, h3, h4, h5⟩ := h h0
  exact ⟨g, 0, F, h1, h2, h3, fun j hj => by simpa using h4 j hj, h5⟩
theorem RowZ.evo {rb : Nat} {m m' : Mem} {W W' : World} (hk : Evo rb m m' W W') {l : List PV} {A : Option Addr} (h : RowZ rb m W l A) : RowZ rb m' W' l A := fun h0 => by
  obtain ⟨g, F, rfl, hg, hm, hc, hr⟩ := h h0
  exact ⟨g, F, rfl, Nat.lt_of_lt_of_le hg hk.size, hk.still hg hm, fun j hj => (cell_of_heap (hk.same _ hg hm) _).trans (hc j hj), fun j hj => (hr j hj).evo hk⟩
def AtomsPost (rb : Nat) (m : Mem) (W : World) (o : Option (List PV)) (e : Ending) (w' : World) : Prop :=
  (∃ l A cap, o = some l ∧ e = .returned (.slice A l.length cap) ∧ l.length ≤ cap ∧ RowZ rb m w' l A ∧ Below W.heap.size W w') ∨ (o = none ∧ e = .panicked (stopV 4) ∧ Below W.heap.size W w')
theorem atomsP_take {e : PEnv} : ∀ (l : List Atm) (j : Nat) (h : j < l.length) (acc : List PV), atomsP e (l.take j) = some acc → (∀ v, atomP e l[j] = some v → atomsP e (l.take (j + 1)) = some (acc ++ [v])) ∧ (atomP e l[j] = none → atomsP e l = none)
  | a :: l, 0, h, acc, h1 => by
    simp only [List.take_zero, atomsP, Option.some.injEq] at h1
    subst h1
    refine ⟨fun v hv => ?_, fun hv => ?_⟩
    · simp only [List.getElem_cons_zero] at hv
      simp [atomsP, hv]
    · simp only [List.getElem_cons_zero] at hv
      simp [atomsP, hv]
  | a :: l, j + 1, h, acc, h1 => by
    simp only [List.take_succ_cons, atomsP] at h1
    cases ha : atomP e a with
    | none => rw [ha] at h1; cases h1
    | some v0 =>
      rw [ha] at h1
      simp only [Option.map_eq_some_iff] at h1
      obtain ⟨acc', h2, rfl⟩ := h1
      obtain ⟨q1, q2⟩ := atomsP_take l j (by simpa using h) acc' h2
      refine ⟨fun v hv => ?_, fun hv => ?_⟩
      · simp only [List.getElem_cons_succ] at hv
        simp only [List.take_succ_cons, atomsP, ha, q1 v hv]
        rfl
      · simp only [List.getElem_cons_succ] at hv
        simp only [atomsP, ha, q2 hv]
        rfl
/-- a row that is being filled -/
structure FillIn (rb : Nat) (m : Mem) (W : World) (acc : List PV) (wr : World) (rv : Value) (Fs : List Value) : Prop where
  below : Below W.heap.size W wr
  row : wr.ownsRow W.heap.size 78 1 rv acc.length Fs
  rep : ∀ i (h : i < acc.length), ∃ F, Fs[i]? = some F ∧ RepV rb m W acc[i] F
theorem FillIn.start (rb : Nat) (m : Mem) (W : World) : FillIn rb m W [] W (.slice none 0 0) [] := ⟨Below.refl _ _, ⟨by simp, .inl ⟨rfl, rfl⟩⟩, by intro i h; simp at h⟩
theorem FillIn.behind {rb : Nat} {m : Mem} {W : World} {acc : List PV} {wr : World} {rv : Value} {Fs : List Value} (h : FillIn rb m W acc wr rv Fs) {V : World} (hV : Below wr.heap.size wr V) : FillIn rb m W acc V rv Fs :=
  ⟨h.below.trans (hV.mono h.below.size), h.row.kept ⟨hV.os, hV.tape, hV.output, hV.size, fun i hi _ => hV.block i hi⟩ (row := none) (by cases rv.ownBlock <;> simp), h.rep⟩
theorem FillIn.more {rb : Nat} {m : Mem} {W : World} {acc : List PV} {wr : World} {rv : Value} {Fs : List Value} (h : FillIn rb m W acc wr rv Fs) {v : PV} {F : Value} (hv : RepV rb m W v F) {w1 : World} {rv' : Value}
    (hown : w1.ownsRow W.heap.size 78 1 rv' (acc.length + 1) (Fs ++ [F])) (hgrow : (wr.alloc (.cells #[F] 78)).grownBy w1 rv.ownBlock) : FillIn rb m W (acc ++ [v]) w1 rv' (Fs ++ [F]) := by
  have hs := h.below.size
  have hb1 : Below W.heap.size W (wr.alloc (.cells #[F] 78)) := h.below.alloc hs _
  refine ⟨hb1.grown hgrow hb1.size (fun j hj => (h.row.lt j hj).1), by simpa using hown, fun i hi => ?_⟩
  have hl : Fs.length = acc.length := by simpa using h.row.1
  by_cases hi' : i < acc.length
  · obtain ⟨F', h1, h2⟩ := h.rep i hi'
    exact ⟨F', by rw [List.getElem?_append_left (by omega)]; exact h1, by rw [List.getElem_append_left hi']; exact h2⟩
  · have : i = acc.length := by simp at hi; omega
    subst this
    exact ⟨F, by rw [List.getElem?_append_right (by omega)]; simp [hl], by simpa using hv⟩
theorem FillIn.whole {rb : Nat} {m : Mem} {W : World} (hm : ∀ k, m.mut rb k → k < W.heap.size) {acc : List PV} {wr : World} {rv : Value} {Fs : List Value} (h : FillIn rb m W acc wr rv Fs) : ∃ A cap, rv = .slice A acc.length cap ∧ acc.length ≤ cap ∧ RowZ rb m wr acc A := by
  rcases h.row.2 with ⟨rfl, h0⟩ | ⟨g, cap, cur, rfl, hlo, hgg, hn, _, _, _⟩
  · exact ⟨none, 0, by rw [h0], by omega, fun h => by omega⟩
  · refine ⟨some ⟨g, 0, none⟩, cap, rfl, hn, fun h0 => ⟨g, fun i => Fs[i]?.getD .nilIface, rfl, (h.row.lt g rfl).2, fun hk => by have := hm g hk; omega, fun i hi => ?_, fun i hi => ?_⟩⟩
    · obtain ⟨F, h1, h2⟩ := h.rep i hi
      have := World.ownsRow.cells h.row (g := g) rfl i F h1
      have ha : (⟨g, 0, none⟩ : Addr).add i = ⟨g, i, none⟩ := by unfold Addr.add; split <;> simp_all
      rw [ha] at this
      simpa [h1] using this
    · obtain ⟨F, h1, h2⟩ := h.rep i hi
      simpa [h1] using h2.evo (Evo.below h.below)

set_option maxRecDepth 100000 in
set_option maxHeartbeats 2000000 in
theorem atoms_any {rb : Nat} {m : Mem} {W : World} (hm : ∀ k, m.mut rb k → k < W.heap.size) {env : PEnv} {g : Value} (h : EnvIn rb m W env g) {ats : List Atm} {Aa : Option Addr} {ca : Nat} (ha : AtomsIn W.heap.size W Aa ats) :
    Calls Try.prog 64 #[g, .slice Aa ats.length ca] W (AtomsPost rb m W (atomsP env ats)) := by
  obtain ⟨i0, hinf, hz0, hz1, hz2⟩ := info_parts infoVal
  obtain ⟨pg, rfl⟩ := h.shape
  have h16 := ha.1
  have HA := Lib.hid (fun (j : Nat) (hj : j < ats.length) (V : World) (hV : Below W.heap.size W V) => (show ∃ b o, Aa = some ⟨b, o, none⟩ ∧ V.cell? ⟨b, o + j * 2, none⟩ = some (.bool ats[j].v) ∧ V.cell? ⟨b, o + j * 2 + 1, none⟩ = some (.int .i64 ats[j].n) from by
    rcases ha.2 with rfl | ⟨b, o, rfl, hlt, hc⟩
    · simp at hj
    · have := hc j hj
      simp only [List.getElem?_eq_getElem hj, Option.getD_some] at this
      exact ⟨b, o, rfl, (hV.cell (p := ⟨_, _, none⟩) hlt).trans this.1, (hV.cell (p := ⟨_, _, none⟩) hlt).trans this.2⟩))
  have HC := Lib.hid (fun (a : Atm) (V : World) (hV : Below W.heap.size W V) => atom_any hV h a)
  have HM := Lib.hid hm
  clear ha h hm
  obtain ⟨L, hL⟩ : ∃ L, ats.length = L := ⟨_, rfl⟩
  have HL := Lib.hid hL
  rw [hL] at h16 ⊢
  clear hL
  go_enter Try.func64, Try.ntmps64
  go_wp2_with fail
  go_loopw [5, 10] (fun rv i wr => ∃ (j : Nat) (acc : List PV) (Fs : List Value), j ≤ L ∧ i = .int .i64 (j : Int) ∧ Hid (acc.length = j) ∧ Hid (FillIn rb m W acc wr rv Fs) ∧ Hid (atomsP env (ats.take j) = some acc)) (fun _ i _ => L + 1 - (intOf i).toNat)
  case atStart => exact ⟨0, [], [], by omega, rfl, Lib.hid rfl, Lib.hid (FillIn.start _ _ _), Lib.hid rfl⟩
  case round =>
    obtain ⟨j, acc, Fs, hj, rfl, HJ, HF, HP⟩ := hrel
    by_cases hlt : j < L
    · have hj0 : (0 : Int) ≤ (j : Int) := by omega
      have hjl : (j : Int) < (L : Int) := by omega
      have hja : j < ats.length := by rw [HL.out]; exact hlt
      obtain ⟨b, o, rfl, c0, c1⟩ := HA.out j hja wr HF.out.below
      have HT := Lib.hid (atomsP_take ats j hja acc HP.out)
      have HC1 := Lib.hid (HC.out ats[j])
      generalize ats[j] = at_ at *
      obtain ⟨av, an⟩ := at_
      obtain ⟨W1, hW1⟩ : ∃ W1, wr.alloc (.cells #[.bool av, .int .i64 an] 25) = W1 := ⟨_, rfl⟩
      have hb1 : Below wr.heap.size wr W1 := by rw [← hW1]; exact (Below.refl _ _).alloc (Nat.le_refl _) _
      have r0 : W1.cell? ⟨wr.heap.size, 0, none⟩ = some (.bool av) := by rw [← hW1, World.cell?_alloc_at _ _ _ _ rfl]; rfl
      have r1 : W1.cell? ⟨wr.heap.size, 1, none⟩ = some (.int .i64 an) := by rw [← hW1, World.cell?_alloc_at _ _ _ _ rfl]; rfl
      have hbW : Below W.heap.size W W1 := HF.out.below.trans (hb1.mono HF.out.below.size)
      have HCA := Lib.hid (HC1.out W1 hbW)
      have HB1 := Lib.hid hb1
      have hml : j + 1 ≤ maxLen := by unfold maxLen; omega
      have HROW := Lib.hid (fun (w' : World) (hw : Below W1.heap.size W1 w') => (show FillIn rb m W acc w' u5 Fs from (HF.out.behind HB1.out).behind hw))
      clear hbW hb1 HC1
      go_wp2_with (first
        | (go_at_call 54; refine HCA.out.mono ?_; rintro en w' (⟨v, T, x, hv, rfl, hrv, hw⟩ | ⟨hv, rfl, hw⟩); rotate_left; exact ⟨rfl, .inr ⟨HT.out.2 hv, rfl, (HF.out.below.trans (HB1.out.mono HF.out.below.size)).trans (hw.mono (Nat.le_trans HF.out.below.size HB1.out.size))⟩⟩)
        | (at_builtin; refine wpList_append_own_at _ rfl _ _ 92 rfl W.heap.size 78 i0 .nilIface 1 16 undVals hinf hz0 hz1 hz2 rfl (by decide) _ _ _ rfl (((HROW.out _ hw).row).alloc _) ⟨w'.heap.size, 0, none⟩ 1 1 [.iface T x] rfl rfl (cell_one_new _ _ _) (by simp [Value.oneCell']) (by rw [HJ.out]; exact hml) (by rw [HJ.out]; omega) (by rw [World.size_alloc]; exact Nat.le_succ_of_le (HROW.out _ hw).below.size) ?_; intro v' w1 hown' hgrow _ hat))
      have hgrow' := hgrow
      change World.grownBy _ w1 u5.ownBlock at hgrow'
      have HM2 := Lib.hid ((HROW.out _ hw).more hrv hown' hgrow')
      have HP2 := Lib.hid (HT.out.1 v hv)
      clear hgrow hgrow' hat hown' hrv hv hw
      go_roundw
      case rel => exact ⟨j + 1, acc ++ [v], _, by omega, by go_num, Lib.hid (by simp [HJ.out]), HM2, HP2⟩
      case measure => simp [intOf]; omega
    · have hjl : ¬ (j : Int) < (L : Int) := by omega
      obtain ⟨A, cap, rfl, hcap, hrow⟩ := HF.out.whole HM.out
      have HR := Lib.hid hrow
      have hje : j = L := by omega
      clear hrow
      have HE := Lib.hid (show AtomsPost rb m W (atomsP env ats) (.returned (.slice A acc.length cap)) wr from .inl ⟨acc, A, cap, by have := HP.out; rw [List.take_of_length_le (by rw [HL.out]; omega)] at this; exact this, rfl, hcap, HR.out, HF.out.below⟩)
      clear hcap
      go_wp2_with fail
      go_ret
      exact HE.out
end Go.Proofs.Ytnobggabjpcbfaa

/-
  The flat evaluator: how the run's state is turned: a cell more, a cell set, an int printed, an int read, a closure made.
-/
set_option linter.unusedVariables false
set_option linter.unusedSimpArgs false
namespace Go.Proofs.Ytnobggabjpcbfaa
open Go.RowKit

section
variable {rb B : Nat} {p : FlatP} {inp : List Int} {fuel : Nat} {s : FSt} {m m' : Mem} {W W' : World}
theorem heap_set_self {b : Nat} {cs : Array Value} {T : TypeId} {fr : Nat × Nat} (h : W.heap[b]? = some (.cells cs T fr)) (o : Nat) (v : Value) : (W.setCell ⟨b, o, none⟩ v).heap[b]? = some (.cells (cs.setIfInBounds o v) T fr) := by
  simp [World.setCell, Array.getElem?_modify, h]
theorem heap_set_ne {b k : Nat} (h : k ≠ b) (o : Nat) (v : Value) : (W.setCell ⟨b, o, none⟩ v).heap[k]? = W.heap[k]? := Below.heap_setCell W _ _ k h

/-- a cell more -/
theorem Good.addCell (hg : Good rb B p inp fuel s m W) {a : PV} {ga : Value} (ha : RepV rb m W a ga) :
    Good rb B p inp fuel { s with cells := s.cells ++ [a] } { m with ca := m.ca ++ [W.heap.size] } (W.alloc (.cells #[ga] 118)) ∧ Evo rb m { m with ca := m.ca ++ [W.heap.size] } W (W.alloc (.cells #[ga] 118)) ∧
      RepV rb { m with ca := m.ca ++ [W.heap.size] } (W.alloc (.cells #[ga] 118)) (.ref s.cells.length) (.iface 117 (.pointer (some ⟨W.heap.size, 0, none⟩))) := by
  have hk : Evo rb m { m with ca := m.ca ++ [W.heap.size] } W (W.alloc (.cells #[ga] 118)) :=
    (Evo.alloc rb m W _).more (List.prefix_refl _) (List.prefix_append _ _) (fun k h => by
      rcases h with rfl | h | h
      · exact .inl (.inl rfl)
      · exact .inl (.inr (.inl h))
      · rcases List.mem_append.1 h with h | h
        · exact .inl (.inr (.inr h))
        · simp at h; exact .inr (by omega))
  have hgb := hg.below ((Below.refl W.heap.size W).alloc (Nat.le_refl _) (.cells #[ga] 118))
  have hrbl := hg.mutLt (k := rb) (.inl rfl)
  refine ⟨⟨hgb.Bs, hg.rbB, hg.left, hg.fuelB, hg.bnd, hgb.run, hgb.out, hg.falen, hg.fnsEvo hk, ?_, ?_, ?_, ?_, hg.rbo, ?_, ?_⟩, hk, .ref ?_⟩
  · simp [hg.calen]
  · intro i hi
    by_cases h : i < s.cells.length
    · obtain ⟨b, gv, h1, h2, h3⟩ := hg.cells i h
      refine ⟨b, gv, prefix_get hk.ca h1, ?_, ?_⟩
      · exact (((Below.refl W.heap.size W).alloc (Nat.le_refl _) (.cells #[ga] 118)).block b (Array.getElem?_eq_some_iff.1 h2).1).trans h2
      · simpa [List.getElem_append_left h] using h3.evo hk
    · have : i = s.cells.length := by simp at hi; omega
      subst this
      refine ⟨W.heap.size, ga, ?_, World.alloc_heap_new W _, ?_⟩
      · show (m.ca ++ [W.heap.size])[s.cells.length]? = _
        rw [← hg.calen, List.getElem?_append_right (Nat.le_refl _)]; simp
      · simpa using ha.evo hk
  · show (m.ca ++ [W.heap.size]).Nodup
    rw [List.nodup_append]
    exact ⟨hg.nodup, by simp, fun x hx y hy => by have := hg.mutLt (k := x) (.inr (.inr hx)); simp at hy; omega⟩
  · intro h
    rcases List.mem_append.1 h with h | h
    · exact hg.rbca h
    · simp at h; omega
  · intro b h
    rcases List.mem_append.1 h with h | h
    · exact hg.oca b h
    · simp at h; subst h
      intro ho
      exact absurd (hg.out.lt _ ho).2 (Nat.lt_irrefl _)
  · intro b h
    rcases List.mem_append.1 h with h | h
    · exact hg.caB b h
    · simp at h; subst h; exact hg.Bs
  · show (m.ca ++ [W.heap.size])[s.cells.length]? = _
    rw [← hg.calen, List.getElem?_append_right (Nat.le_refl _)]; simp

/-- a cell is set -/
theorem Good.setRef (hg : Good rb B p inp fuel s m W) {i b : Nat} (hb : m.ca[i]? = some b) {a : PV} {ga : Value} (ha : RepV rb m W a ga) :
    Good rb B p inp fuel { s with cells := s.cells.set i a } m (W.setCell ⟨b, 0, none⟩ ga) ∧ Evo rb m m W (W.setCell ⟨b, 0, none⟩ ga) := by
  have hbm : b ∈ m.ca := List.mem_of_getElem? hb
  have hk : Evo rb m m W (W.setCell ⟨b, 0, none⟩ ga) := Evo.setCell W 0 ga (.inr (.inr hbm))
  have hst := hg.stay hk
  have hne : ∀ k, k ≠ b → (W.setCell ⟨b, 0, none⟩ ga).heap[k]? = W.heap[k]? := fun k h => Below.heap_setCell W _ _ k h
  obtain ⟨f0, f1, f2, f3, Ai, ci, hr, hfl, hi, hci⟩ := hg.run
  refine ⟨⟨by simpa [World.setCell] using hg.Bs, hg.rbB, hg.left, hg.fuelB, hg.bnd, ⟨f0, f1, f2, f3, Ai, ci, (hne rb (fun e => hg.rbca (e ▸ hbm))).trans hr, hfl.kept hst, hi.below hst, hci⟩, ?_, hg.falen, hg.fnsEvo hk, by simp [hg.calen], ?_, hg.nodup, hg.rbca, hg.rbo, hg.oca, hg.caB⟩, hk⟩
  · refine hg.out.kept (row := some b) ⟨rfl, rfl, rfl, by simp [World.setCell], fun i hi h => hne i (fun e => h (by rw [e]))⟩ ?_
    exact .inr (hg.oca b hbm)
  · intro j hj
    have hj' : j < s.cells.length := by simpa using hj
    obtain ⟨b', gv, h1, h2, h3⟩ := hg.cells j hj'
    by_cases hji : j = i
    · subst hji
      rw [hb] at h1; cases h1
      refine ⟨b, ga, hb, ?_, by simpa using ha.evo hk⟩
      exact heap_set_self h2 0 ga
    · refine ⟨b', gv, h1, (hne b' ?_).trans h2, ?_⟩
      · rintro rfl
        have hjl : j < m.ca.length := (List.getElem?_eq_some_iff.1 h1).1
        have hil : i < m.ca.length := (List.getElem?_eq_some_iff.1 hb).1
        have hp := List.pairwise_iff_getElem.1 hg.nodup
        rw [List.getElem?_eq_getElem hjl] at h1
        rw [List.getElem?_eq_getElem hil] at hb
        simp only [Option.some.injEq] at h1 hb
        rcases Nat.lt_or_gt_of_ne hji with h | h
        · exact hp j i hjl hil h (h1.trans hb.symm)
        · exact hp i j hil hjl h (hb.trans h1.symm)
      · have : (s.cells.set i a)[j] = s.cells[j] := by simp [List.getElem_set, Ne.symm hji]
        simpa [this] using h3.evo hk

theorem Good.neRb (hg : Good rb B p inp fuel s m W) {b : Nat} (hb : b ∈ m.ca) : b ≠ rb := fun e => hg.rbca (e ▸ hb)
/-- the run's own record is turned, functions and cells are as they were -/
theorem Good.turn {s' : FSt} (hg : Good rb B p inp fuel s m W) (hk : Evo rb m m' W W') (hmade : s'.made = s.made) (hcells : s'.cells = s.cells) (hfa : m'.fa = m.fa) (hca : m'.ca = m.ca) (hcb : ∀ b ∈ m.ca, W'.heap[b]? = W.heap[b]?)
    (hleft : s'.left ≤ fuel) (hbnd : s'.out.length + s'.left ≤ fuel)
    (hrun : ∃ f0 f1 f2 f3 Ai ci, W'.heap[rb]? = some (.cells #[f0, f1, f2, f3, .slice Ai (inp.drop s'.asked).length ci, .int .i64 fuel, .int .i64 0, .int .i64 0, m'.vo, .int .i64 ((fuel : Int) - s'.left)] 62 (0, 0)) ∧ FlatIn B W' p #[f0, f1, f2, f3] ∧ IntsIn B W' Ai (inp.drop s'.asked) ∧ (inp.drop s'.asked).length ≤ ci)
    (hout : W'.ownsRow B 3 1 m'.vo s'.out.length (s'.out.map (Value.int .i64))) (hrbo : m'.vo.ownBlock ≠ some rb) (hoca : ∀ b ∈ m.ca, m'.vo.ownBlock ≠ some b) : Good rb B p inp fuel s' m' W' := by
  refine ⟨Nat.le_trans hg.Bs hk.size, hg.rbB, hleft, hg.fuelB, hbnd, hrun, hout, by rw [hfa, hmade]; exact hg.falen, ?_, by rw [hca, hcells]; exact hg.calen, ?_, by rw [hca]; exact hg.nodup, by rw [hca]; exact hg.rbca, hrbo, by rw [hca]; exact hoca, by rw [hca]; exact hg.caB⟩
  · rw [hmade]; exact hg.fnsEvo hk
  · rw [hcells]
    intro i hi
    obtain ⟨b, gv, h1, h2, h3⟩ := hg.cells i hi
    exact ⟨b, gv, prefix_get hk.ca h1, (hcb b (List.mem_of_getElem? h1)).trans h2, h3.evo hk⟩

/-- a step is taken -/
theorem Good.step (hg : Good rb B p inp fuel s m W) (hl : 0 < s.left) : Good rb B p inp fuel { s with left := s.left - 1 } m (W.setCell ⟨rb, 9, none⟩ (.int .i64 ((fuel : Int) - s.left + 1))) ∧ Evo rb m m W (W.setCell ⟨rb, 9, none⟩ (.int .i64 ((fuel : Int) - s.left + 1))) := by
  have hk : Evo rb m m W (W.setCell ⟨rb, 9, none⟩ (.int .i64 ((fuel : Int) - s.left + 1))) := Evo.setCell W 9 _ (.inl rfl)
  obtain ⟨f0, f1, f2, f3, Ai, ci, hr, hfl, hi, hci⟩ := hg.run
  refine ⟨hg.turn hk rfl rfl rfl rfl (fun b hb => heap_set_ne (hg.neRb hb) _ _) (by have := hg.left; show s.left - 1 ≤ fuel; omega) (by have := hg.bnd; show s.out.length + (s.left - 1) ≤ fuel; omega) ⟨f0, f1, f2, f3, Ai, ci, ?_, hfl.kept (hg.stay hk), hi.below (hg.stay hk), hci⟩ ?_ hg.rbo hg.oca, hk⟩
  · rw [heap_set_self hr]
    have : ((s.left - 1 : Nat) : Int) = s.left - 1 := by omega
    simp [this]
    omega
  · exact hg.out.kept (row := some rb) ⟨rfl, rfl, rfl, by simp [World.setCell], fun i hi h => heap_set_ne (fun e => h (by rw [e])) _ _⟩ (.inr hg.rbo)

/-- an int is read -/
theorem Good.read (hg : Good rb B p inp fuel s m W) {Ai : Option Addr} {ci : Nat} (hi : IntsIn B W Ai (inp.drop (s.asked + 1))) (hci : (inp.drop (s.asked + 1)).length ≤ ci) :
    Good rb B p inp fuel { s with asked := s.asked + 1 } m (W.setCell ⟨rb, 4, none⟩ (.slice Ai (inp.drop (s.asked + 1)).length ci)) ∧ Evo rb m m W (W.setCell ⟨rb, 4, none⟩ (.slice Ai (inp.drop (s.asked + 1)).length ci)) := by
  have hk : Evo rb m m W (W.setCell ⟨rb, 4, none⟩ (.slice Ai (inp.drop (s.asked + 1)).length ci)) := Evo.setCell W 4 _ (.inl rfl)
  obtain ⟨f0, f1, f2, f3, Ai', ci', hr, hfl, hi', hci'⟩ := hg.run
  refine ⟨hg.turn hk rfl rfl rfl rfl (fun b hb => heap_set_ne (hg.neRb hb) _ _) hg.left hg.bnd ⟨f0, f1, f2, f3, Ai, ci, ?_, hfl.kept (hg.stay hk), hi.below (hg.stay hk), hci⟩ ?_ hg.rbo hg.oca, hk⟩
  · rw [heap_set_self hr]
    simp
  · exact hg.out.kept (row := some rb) ⟨rfl, rfl, rfl, by simp [World.setCell], fun i hi h => heap_set_ne (fun e => h (by rw [e])) _ _⟩ (.inr hg.rbo)

/-- more was asked for than there is: nothing turns -/
theorem Good.past (hg : Good rb B p inp fuel s m W) (hp : inp.length ≤ s.asked) : Good rb B p inp fuel { s with asked := s.asked + 1 } m W := by
  obtain ⟨f0, f1, f2, f3, Ai, ci, hr, hfl, hi, hci⟩ := hg.run
  have h1 : inp.drop s.asked = [] := List.drop_eq_nil_iff.2 hp
  have h2 : inp.drop (s.asked + 1) = [] := List.drop_eq_nil_iff.2 (by omega)
  refine hg.turn (Evo.refl _ _ _) rfl rfl rfl rfl (fun _ _ => rfl) hg.left hg.bnd ⟨f0, f1, f2, f3, Ai, ci, ?_, hfl, ?_, ?_⟩ hg.out hg.rbo hg.oca
  · rw [hr, h1, h2]
  · rw [h2, ← h1]; exact hi
  · rw [h2]; simp

/-- an int is printed -/
theorem Good.print (hg : Good rb B p inp fuel s m W) (hs : s.out.length + s.left < fuel) {W2 w1 : World} (hb2 : Below W.heap.size W W2) {n : Int} {v' : Value} (h1 : w1.ownsRow B 3 1 v' (s.out.length + 1) (s.out.map (Value.int .i64) ++ [.int .i64 n]))
    (h2 : W2.grownBy w1 m.vo.ownBlock) (hat : v'.ownBlock = m.vo.ownBlock ∨ v'.ownBlock = some W2.heap.size) :
    Good rb B p inp fuel { s with out := s.out ++ [n] } { m with vo := v' } (w1.setCell ⟨rb, 8, none⟩ v') ∧ Evo rb m { m with vo := v' } W (w1.setCell ⟨rb, 8, none⟩ v') := by
  have hsz := hb2.size
  have hrbl := hg.mutLt (k := rb) (.inl rfl)
  have hk : Evo rb m { m with vo := v' } W (w1.setCell ⟨rb, 8, none⟩ v') := by
    refine ⟨h2.os.trans hb2.os, h2.tape.trans hb2.tape, h2.output.trans hb2.output, ?_, ?_, ?_, List.prefix_refl _, List.prefix_refl _⟩
    · have := h2.size; simp [World.setCell]; omega
    · intro k hk hm
      rw [heap_set_ne (fun e => hm (.inl e))]
      exact (h2.block k (by omega) (fun e => hm (.inr (.inl e.symm)))).trans (hb2.block k hk)
    · intro k hk
      rcases hk with rfl | hk | hk
      · exact .inl (.inl rfl)
      · rcases hat with h | h
        · exact .inl (.inr (.inl (h ▸ hk)))
        · have := h.symm.trans hk; simp at this; exact .inr (by omega)
      · exact .inl (.inr (.inr hk))
  have hrb' : v'.ownBlock ≠ some rb := by
    rcases hat with h | h
    · rw [h]; exact hg.rbo
    · rw [h]; simp; omega
  obtain ⟨f0, f1, f2, f3, Ai, ci, hr, hfl, hi, hci⟩ := hg.run
  refine ⟨hg.turn hk rfl rfl rfl rfl ?_ hg.left ?_ ⟨f0, f1, f2, f3, Ai, ci, ?_, hfl.kept (hg.stay hk), hi.below (hg.stay hk), hci⟩ ?_ hrb' ?_, hk⟩
  · intro b hb
    have hbl := hg.mutLt (k := b) (.inr (.inr hb))
    rw [heap_set_ne (hg.neRb hb)]
    exact (h2.block b (by omega) (fun e => hg.oca b hb e.symm)).trans (hb2.block b hbl)
  · show (s.out ++ [n]).length + s.left ≤ fuel
    simp; omega
  · have : w1.heap[rb]? = _ := (h2.block rb (by omega) (fun e => hg.rbo e.symm)).trans ((hb2.block rb hrbl).trans hr)
    rw [heap_set_self this]
    simp
  · have := h1.kept (w' := w1.setCell ⟨rb, 8, none⟩ v') (row := some rb) ⟨rfl, rfl, rfl, by simp [World.setCell], fun i hi h => heap_set_ne (fun e => h (by rw [e])) _ _⟩ (.inr hrb')
    simpa using this
  · intro b hb
    have hbl := hg.mutLt (k := b) (.inr (.inr hb))
    rcases hat with h | h
    · rw [h]; exact hg.oca b hb
    · rw [h]; simp; omega
/-- a closure more -/
theorem Good.addClosure (hg : Good rb B p inp fuel s m W) {f : Int} (hf0 : 0 ≤ f) (hf1 : f < p.funs.length) {l : List PV} {A : Option Addr} {cap : Nat} (hc : l.length ≤ cap) (h255 : l.length ≤ 255) (hr : RowV rb m W l A) :
    Good rb B p inp fuel { s with made := s.made ++ [(f, l)] } { m with fa := m.fa ++ [W.heap.size] } (W.alloc (.cells #[.int .i64 f, .slice A l.length cap] 111)) ∧ Evo rb m { m with fa := m.fa ++ [W.heap.size] } W (W.alloc (.cells #[.int .i64 f, .slice A l.length cap] 111)) ∧
      RepV rb { m with fa := m.fa ++ [W.heap.size] } (W.alloc (.cells #[.int .i64 f, .slice A l.length cap] 111)) (.fn s.made.length) (.iface 109 (.pointer (some ⟨W.heap.size, 0, none⟩))) := by
  have hk : Evo rb m { m with fa := m.fa ++ [W.heap.size] } W (W.alloc (.cells #[.int .i64 f, .slice A l.length cap] 111)) :=
    (Evo.alloc rb m W _).more (List.prefix_append _ _) (List.prefix_refl _) (fun k h => .inl h)
  have hgb := hg.below ((Below.refl W.heap.size W).alloc (Nat.le_refl _) (.cells #[.int .i64 f, .slice A l.length cap] 111))
  have hat : (m.fa ++ [W.heap.size])[s.made.length]? = some W.heap.size := by rw [← hg.falen, List.getElem?_append_right (Nat.le_refl _)]; simp
  refine ⟨⟨hgb.Bs, hg.rbB, hg.left, hg.fuelB, hg.bnd, hgb.run, hgb.out, by simp [hg.falen], ?_, hg.calen, ?_, hg.nodup, hg.rbca, hg.rbo, hg.oca, hg.caB⟩, hk, .fn hat⟩
  · intro i hi
    by_cases h : i < s.made.length
    · simp only [List.getElem_append_left h]
      exact hg.fnsEvo hk i h
    · have : i = s.made.length := by simp at hi; omega
      subst this
      have hget : (s.made ++ [(f, l)])[s.made.length]'(by simp) = (f, l) := by simp
      simp only [hget]
      exact ⟨W.heap.size, A, cap, hat, ⟨World.alloc_heap_new W _, fun hm => by have := hg.mutLt (k := W.heap.size) hm; omega⟩, hc, h255, hr.evo hk, hf0, hf1⟩
  · intro i hi
    obtain ⟨b, gv, h1, h2, h3⟩ := hg.cells i hi
    exact ⟨b, gv, h1, (((Below.refl W.heap.size W).alloc (Nat.le_refl _) (.cells #[.int .i64 f, .slice A l.length cap] 111)).block b (Array.getElem?_eq_some_iff.1 h2).1).trans h2, h3.evo hk⟩
end

section
variable {P : Program} (w : World)
theorem wp_append_at {o : Oper} {a : Act} {K : Act → World → Prop} {Q : Exit → Act → World → Prop} (s x : Operand) (t : TypeId)
    (ho : o.op = .call { callee := .builtin .append, args := #[s, x], argTypes := #[t, t] })
    (base : Nat) (e : TypeId) (i : TypeInfo) (z : Value) (size bytes : Nat) (ht : P.underlying t = some (.slice e)) (hi : P.info? e = some i) (hz : i.zero = some z)
    (hsize : i.size = size) (hby : i.bytes = bytes) (hzs : z.cells.size = size) (hsz : 0 < size)
    (v : Value) (n : Nat) (xs : List Value) (hs : a.eval s = v) (hown : w.ownsRow base e size v n xs)
    (ad : Addr) (m c : Nat) (news : List Value) (hx : a.eval x = .slice (some ad) m c) (hl : news.length = m * size) (hnews : ∀ j u, news[j]? = some u → w.cell? (ad.add j) = some u) (h1 : ∀ u ∈ news, u.oneCell' = true)
    (h63 : n + m ≤ maxLen) (hbytes : (n + m) * bytes ≤ 140737488355328) (hbase : base ≤ w.heap.size)
    (h : ∀ v' w', w'.ownsRow base e size v' (n + m) (xs ++ news) → w.grownBy w' v.ownBlock → (v'.ownBlock = v.ownBlock ∨ v'.ownBlock = some w.heap.size) → K (a.put o.dst v') w') : o.wp P a w K Q := by
  obtain ⟨v', w', hr, h2, h3, _, h4⟩ := run_append_own_at (P := P) w base t o.type e i z size bytes ht hi hz hsize hby hzs hsz v n xs hown ad m c news hl hnews h1 h63 hbytes hbase
  unfold Oper.wp execOp
  simp only [ho, resolve, invoke, builtin, Sem.run_bind, Sem.run_pure, Result.andThen_ok, List.map_toArray, List.map_cons, List.map_nil, hs, hx, hr]
  exact h v' w' h2 h3 h4
end
end Go.Proofs.Ytnobggabjpcbfaa

/-
  The flat evaluator: how an evaluation ends; a step; a call.
-/
set_option linter.unusedVariables false
set_option linter.unusedSimpArgs false
namespace Go.Proofs.Ytnobggabjpcbfaa
open Go.RowKit

/-- what is thrown: what was recovered and thrown again lies behind it -/
def Thrown (T : TypeId) (x : Value) (ch : List PanicEntry) : Prop := ∃ older : List PanicEntry, ch = { v := .iface T x, recovered := false } :: older ∧ ∀ p ∈ older, p.goexit = false
theorem thrown_one (T : TypeId) (x : Value) : Thrown T x [{ v := .iface T x, recovered := false }] := ⟨[], rfl, by simp⟩

/-- how an evaluation ends in memory -/
inductive EvPost (rb B : Nat) (p : FlatP) (inp : List Int) (fuel : Nat) (m : Mem) (W : World) : FOut → Ending → World → Prop
  | val {v : PV} {s : FSt} {m' : Mem} {W' : World} {g : Value} (hk : Evo rb m m' W W') (hg : Good rb B p inp fuel s m' W') (hv : RepV rb m' W' v g) : EvPost rb B p inp fuel m W (.val v, s) (.returned g) W'
  | raised {v : PV} {s : FSt} {m' : Mem} {W' : World} {g : Value} {ch : List PanicEntry} (hk : Evo rb m m' W W') (hg : Good rb B p inp fuel s m' W') (hv : RepV rb m' W' v g) (hkey : ∃ k, keyOf v = some k) (hth : Thrown 80 (.agg #[g]) ch) : EvPost rb B p inp fuel m W (.raised v, s) (.panicked ch) W'
  | stuck {s : FSt} {m' : Mem} {W' : World} {ch : List PanicEntry} (hk : Evo rb m m' W W') (hg : Good rb B p inp fuel s m' W') (hth : Thrown 76 (.agg #[.int .i64 4]) ch) : EvPost rb B p inp fuel m W (.stuck, s) (.panicked ch) W'
  | cut {s : FSt} {m' : Mem} {W' : World} {ch : List PanicEntry} (hk : Evo rb m m' W W') (hg : Good rb B p inp fuel s m' W') (hth : Thrown 76 (.agg #[.int .i64 3]) ch) : EvPost rb B p inp fuel m W (.cut, s) (.panicked ch) W'
theorem EvPost.from_ {rb B : Nat} {p : FlatP} {inp : List Int} {fuel : Nat} {m m' : Mem} {W W' : World} (hk : Evo rb m m' W W') {o : FOut} {e : Ending} {V : World} (h : EvPost rb B p inp fuel m' W' o e V) : EvPost rb B p inp fuel m W o e V := by
  cases h with
  | val h1 h2 h3 => exact .val (hk.trans h1) h2 h3
  | raised h1 h2 h3 h4 h5 => exact .raised (hk.trans h1) h2 h3 h4 h5
  | stuck h1 h2 h3 => exact .stuck (hk.trans h1) h2 h3
  | cut h1 h2 h3 => exact .cut (hk.trans h1) h2 h3

theorem EvPost.ends {rb B : Nat} {p : FlatP} {inp : List Int} {fuel : Nat} {m : Mem} {W : World} {o : FOut} {e : Ending} {V : World} (h : EvPost rb B p inp fuel m W o e V) :
    (∃ g, e = .returned g ∧ EvPost rb B p inp fuel m W o (.returned g) V) ∨ (∃ ch, e = .panicked ch ∧ EvPost rb B p inp fuel m W o (.panicked ch) V) := by
  cases h with
  | val h1 h2 h3 => exact .inl ⟨_, rfl, .val h1 h2 h3⟩
  | raised h1 h2 h3 h4 h5 => exact .inr ⟨_, rfl, .raised h1 h2 h3 h4 h5⟩
  | stuck h1 h2 h3 => exact .inr ⟨_, rfl, .stuck h1 h2 h3⟩
  | cut h1 h2 h3 => exact .inr ⟨_, rfl, .cut h1 h2 h3⟩

theorem EvPost.evo {rb B : Nat} {p : FlatP} {inp : List Int} {fuel : Nat} {m : Mem} {W : World} {o : FOut} {e : Ending} {V : World} (h : EvPost rb B p inp fuel m W o e V) : ∃ m', Evo rb m m' W V := by
  cases h with
  | val h1 h2 h3 => exact ⟨_, h1⟩
  | raised h1 h2 h3 h4 h5 => exact ⟨_, h1⟩
  | stuck h1 h2 h3 => exact ⟨_, h1⟩
  | cut h1 h2 h3 => exact ⟨_, h1⟩

/-- bodies are evaluated as they should, to a depth -/
def BodyOk (rb B : Nat) (p : FlatP) (inp : List Int) (fuel n : Nat) : Prop :=
  ∀ (a : Anf) (e : PEnv) (s : FSt) (m : Mem) (W : World) (ga : Array Value) (ge : Value), BodyIn B W a ga → WfA p.funs.length a → EnvIn rb m W e ge → Good rb B p inp fuel s m W → s.left < n →
    Calls Try.prog 36 #[.pointer (some ⟨rb, 0, none⟩), .agg ga, ge] W (EvPost rb B p inp fuel m W (evF p.funs inp n a e s))

section
variable {rb B : Nat} {p : FlatP} {inp : List Int} {fuel n : Nat} {s : FSt} {m : Mem} {W : World}
/-- a step -/
def StepPost (rb B : Nat) (p : FlatP) (inp : List Int) (fuel : Nat) (s : FSt) (m : Mem) (W : World) (e : Ending) (W' : World) : Prop :=
  (0 < s.left ∧ e = .returned (.tuple #[]) ∧ Good rb B p inp fuel { s with left := s.left - 1 } m W' ∧ Evo rb m m W W') ∨ (s.left = 0 ∧ e = .panicked (stopV 3) ∧ Good rb B p inp fuel s m W' ∧ Evo rb m m W W')
set_option maxRecDepth 100000 in
theorem step_any (hg : Good rb B p inp fuel s m W) : Calls Try.prog 51 #[.pointer (some ⟨rb, 0, none⟩)] W (StepPost rb B p inp fuel s m W) := by
  obtain ⟨f0, f1, f2, f3, Ai, ci, hr, hfl, hi, hci⟩ := hg.run
  have hfu := hg.fuelB
  have hle := hg.left
  obtain ⟨st, hst⟩ : ∃ st : Int, st = (fuel : Int) - s.left := ⟨_, rfl⟩
  have hst0 : 0 ≤ st := by omega
  have hst2 : st ≤ 1000000 := by omega
  have c5 : W.cell? ⟨rb, 5, none⟩ = some (.int .i64 fuel) := by simp [World.cell?, hr]
  have c9 : W.cell? ⟨rb, 9, none⟩ = some (.int .i64 st) := by simp [World.cell?, hr, hst]
  have z9 : W.frozen? ⟨rb, 9, none⟩ = false := by simp [World.frozen?, hr]
  have hw : IntKind.i64.wrap (st + 1) = st + 1 := by rw [IntKind.wrap_i64]; omega
  by_cases h0 : s.left = 0
  · have hlt : ¬ st < (fuel : Int) := by omega
    have hge : (fuel : Int) ≤ st := by omega
    have HP := Lib.hid (fun (nq : Nat) => (show StepPost rb B p inp fuel s m W (.panicked (stopV 3)) (W.drewN nq) from
      .inr ⟨h0, rfl, hg.below (below_drewN (Below.refl _ _) _), Evo.below (below_drewN (Below.refl _ _) _)⟩))
    clear hg hr hfl hi hci h0 hst hle
    go_enter Try.func51, Try.ntmps51
    go_wp2_with fail
    go_quiet (fail)
    go_wp2_with fail
    exact ⟨rfl, HP.out _⟩
  · have hlt : st < (fuel : Int) := by omega
    have hge : ¬ (fuel : Int) ≤ st := by omega
    have HP := Lib.hid (fun (nq : Nat) => (show StepPost rb B p inp fuel s m W (.returned (.tuple #[])) ((W.drewN nq).setCell ⟨rb, 9, none⟩ (.int .i64 (st + 1))) from by
      obtain ⟨q1, q2⟩ := (hg.below (below_drewN (Below.refl _ _) nq)).step (by omega)
      rw [← hst] at q1 q2
      exact .inl ⟨by omega, rfl, q1, (Evo.below (below_drewN (Below.refl _ _) nq)).trans q2⟩))
    clear hg hr hfl hi hci h0 hst hle
    go_enter Try.func51, Try.ntmps51
    go_wp2_with fail
    go_quiet (fail)
    go_wp2_with fail
    go_end0
    exact HP.out _
end
end Go.Proofs.Ytnobggabjpcbfaa

/-
  The flat evaluator: a call.
-/
set_option linter.unusedVariables false
set_option linter.unusedSimpArgs false
namespace Go.Proofs.Ytnobggabjpcbfaa
open Go.RowKit

theorem EvPost.inv {rb B : Nat} {p : FlatP} {inp : List Int} {fuel : Nat} {m : Mem} {W : World} {o : FOut} {e : Ending} {V : World} (h : EvPost rb B p inp fuel m W o e V) :
    (∃ v s' m' T x, o = (.val v, s') ∧ e = .returned (.iface T x) ∧ Evo rb m m' W V ∧ Good rb B p inp fuel s' m' V ∧ RepV rb m' V v (.iface T x)) ∨
      (∃ ch, e = .panicked ch ∧ (∀ v s', o ≠ (.val v, s')) ∧ EvPost rb B p inp fuel m W o (.panicked ch) V ∧ ∀ f, EvPost rb B p inp fuel m W (FOut.andThen o f) (.panicked ch) V) := by
  cases h with
  | val h1 h2 h3 => obtain ⟨T, x, rfl⟩ := h3.shape; exact .inl ⟨_, _, _, T, x, rfl, rfl, h1, h2, h3⟩
  | raised h1 h2 h3 h4 h5 => exact .inr ⟨_, rfl, by simp, .raised h1 h2 h3 h4 h5, fun f => .raised h1 h2 h3 h4 h5⟩
  | stuck h1 h2 h3 => exact .inr ⟨_, rfl, by simp, .stuck h1 h2 h3, fun f => .stuck h1 h2 h3⟩
  | cut h1 h2 h3 => exact .inr ⟨_, rfl, by simp, .cut h1 h2 h3, fun f => .cut h1 h2 h3⟩
theorem two_new1 (X : World) (a b : Obj) : ((X.alloc a).alloc b).heap[X.heap.size]? = some a :=
  (((Below.refl _ _).alloc (Nat.le_refl _) b : Below (X.alloc a).heap.size (X.alloc a) _).block X.heap.size (by simp)).trans (World.alloc_heap_new X a)
theorem two_new2 (X : World) (a b : Obj) : ((X.alloc a).alloc b).heap[X.heap.size + 1]? = some b := by
  have := World.alloc_heap_new (X.alloc a) b
  rwa [World.size_alloc] at this
theorem below_two (X : World) (a b : Obj) : Below X.heap.size X ((X.alloc a).alloc b) := ((Below.refl _ _).alloc (Nat.le_refl _) _).alloc (by rw [World.size_alloc]; exact Nat.le_succ _) _

theorem three_new1 (X : World) (f a b : Obj) : (((X.alloc f).alloc a).alloc b).drew.heap[X.heap.size + 1]? = some a := by
  have := two_new1 (X.alloc f) a b
  rwa [World.size_alloc] at this
theorem three_new2 (X : World) (f a b : Obj) : (((X.alloc f).alloc a).alloc b).drew.heap[X.heap.size + 1 + 1]? = some b := by
  have := two_new2 (X.alloc f) a b
  rwa [World.size_alloc] at this
theorem below_three (X : World) (f a b : Obj) : Below X.heap.size X (((X.alloc f).alloc a).alloc b).drew := ((below_two X f a).alloc (by rw [World.size_alloc, World.size_alloc]; omega) b).drew

section
variable {rb B : Nat} {p : FlatP} {inp : List Int} {fuel n : Nat} {s : FSt} {m : Mem} {W : World}
set_option maxRecDepth 100000 in
set_option maxHeartbeats 1000000 in
theorem call_fn (hok : BodyOk rb B p inp fuel n) (hwf : ∀ g ∈ p.funs, WfA p.funs.length g.body) (i : Nat) (a : PV) {gf ga : Value} (hf : RepV rb m W (.fn i) gf) (ha : RepV rb m W a ga) (hg : Good rb B p inp fuel s m W) (hn : s.left ≤ n) :
    Calls Try.prog 66 #[.pointer (some ⟨rb, 0, none⟩), gf, ga] W (EvPost rb B p inp fuel m W (callF p.funs (evF p.funs inp n) (.fn i) a s)) := by
  obtain ⟨Ta, xa, rfl⟩ := ha.shape
  have hf0 := hf
  cases hf with
  | @fn i b hb =>
    have hlen : i < s.made.length := by rw [← hg.falen]; exact (List.getElem?_eq_some_iff.1 hb).1
    obtain ⟨b', A, cap, h1, h2, h3, h255, h4, h5, h6⟩ := hg.fns i hlen
    rw [hb] at h1
    cases h1
    obtain ⟨j, hj⟩ : ∃ j : Nat, s.made[i].1 = (j : Int) := ⟨s.made[i].1.toNat, by omega⟩
    have hjl : j < p.funs.length := by omega
    have hstep := Lib.hid (step_any hg)
    rw [hj] at h2
    have hcall : callF p.funs (evF p.funs inp n) (.fn i) a s = if s.left = 0 then (.cut, s) else evF p.funs inp n p.funs[j].body [(p.funs[j].param, a), (p.funs[j].env, .fn i)] { s with left := s.left - 1 } := by
      simp [callF, List.getElem?_eq_getElem hlen, hj, List.getElem?_eq_getElem hjl]
    obtain ⟨out, hout⟩ : ∃ out, callF p.funs (evF p.funs inp n) (.fn i) a s = out := ⟨_, rfl⟩
    rw [hout]
    have HO := Lib.hid (hout.symm.trans hcall)
    clear hout
    -- what stands in memory behind the step
    have HS := Lib.hid (fun (V : World) (s' : FSt) (hgV : Good rb B p inp fuel s' m V) (hE : Evo rb m m W V) => (show ∃ Af cf b2 o2 g0 g1 g2 f1 f2 f3, V.cell? ⟨rb, 0, none⟩ = some (.slice (some ⟨b2, o2, none⟩) p.funs.length cf) ∧ p.funs.length ≤ cf ∧ V.cell? ⟨b, 0, none⟩ = some (.int .i64 (j : Int)) ∧
        V.cell? ⟨b2, o2 + j * 5, none⟩ = some (.int .i64 p.funs[j].env) ∧ V.cell? ⟨b2, o2 + j * 5 + 1, none⟩ = some (.int .i64 p.funs[j].param) ∧ V.cell? ⟨b2, o2 + j * 5 + 2, none⟩ = some g0 ∧ V.cell? ⟨b2, o2 + j * 5 + 3, none⟩ = some g1 ∧ V.cell? ⟨b2, o2 + j * 5 + 4, none⟩ = some g2 ∧
        BodyIn B V p.funs[j].body #[g0, g1, g2] ∧ Af = (0 : Nat) ∧ f1 = (0 : Nat) ∧ f2 = (0 : Nat) ∧ f3 = (0 : Nat) from by
      obtain ⟨f0, f1, f2, f3, Ai, ci, hr, hfl, -, -⟩ := hgV.run
      obtain ⟨Af, cf, b2, o2, m0, m1, m2, hv, k1, k2, k3, k4, k5⟩ := hfl
      simp only [Array.mk.injEq, List.cons.injEq, and_true] at hv
      obtain ⟨rfl, rfl, rfl, rfl⟩ := hv
      obtain ⟨rfl, -⟩ := k4 (by omega)
      obtain ⟨g0, g1, g2, e0, e1, e2, e3, e4, e5⟩ := k5 j hjl
      exact ⟨0, cf, b2, o2, g0, g1, g2, 0, 0, 0, by simp [World.cell?, hr], k1, at_cell0 (h2.evo hE) rfl, e0, e1, e2, e3, e4, e5, rfl, rfl, rfl, rfl⟩))
    have HC := Lib.hid (fun (V V2 : World) (k1 k2 : Nat) (g0 g1 g2 : Value) (hgV : Good rb B p inp fuel { s with left := s.left - 1 } m V) (hE : Evo rb m m W V) (hbd : BodyIn B V p.funs[j].body #[g0, g1, g2]) (hl : 0 < s.left) (hV2 : Below V.heap.size V V2) (l1 : V.heap.size ≤ k1) (l2 : V.heap.size ≤ k2)
        (q1 : V2.heap[k1]? = some (.cells #[.int .i64 p.funs[j].env, .iface 109 (.pointer (some ⟨b, 0, none⟩)), .pointer none] 99 (0, 0)))
        (q2 : V2.heap[k2]? = some (.cells #[.int .i64 p.funs[j].param, .iface Ta xa, .pointer (some ⟨k1, 0, none⟩)] 99 (0, 0))) =>
      (show Calls Try.prog 36 #[.pointer (some ⟨rb, 0, none⟩), .agg #[g0, g1, g2], .pointer (some ⟨k2, 0, none⟩)] V2 (EvPost rb B p inp fuel m W (evF p.funs inp n p.funs[j].body [(p.funs[j].param, a), (p.funs[j].env, .fn i)] { s with left := s.left - 1 })) from by
        have hE2 : Evo rb m m V V2 := Evo.below hV2
        have hEE := hE.trans hE2
        have hbV : Below B V V2 := hV2.mono hgV.Bs
        have henv : EnvIn rb m V2 [(p.funs[j].param, a), (p.funs[j].env, .fn i)] (.pointer (some ⟨k2, 0, none⟩)) :=
          .cons ⟨q2, fun hm => by have := hgV.mutLt hm; omega⟩ (ha.evo hEE) (.cons ⟨q1, fun hm => by have := hgV.mutLt hm; omega⟩ (hf0.evo hEE) .nil)
        exact (hok _ _ _ m V2 _ _ (hbd.kept hbV) (hwf _ (List.getElem_mem hjl)) henv (hgV.below hV2) (by show s.left - 1 < n; omega)).mono fun e V' h => h.from_ hEE))
    have HJ := Lib.hid hjl
    have HST := Lib.hid (fun (h : s.left = 0) (V : World) (hgV : Good rb B p inp fuel s m V) (hE : Evo rb m m W V) => (show EvPost rb B p inp fuel m W (.cut, s) (.panicked (stopV 3)) V from .cut hE hgV (thrown_one _ _)))
    have hjl0 : (j : Int) < (p.funs.length : Int) := by omega
    generalize evF p.funs inp n p.funs[j].body [(p.funs[j].param, a), (p.funs[j].env, .fn i)] { s with left := s.left - 1 } = o at HC HO
    generalize p.funs[j].env = ee at *
    generalize p.funs[j].param = pp at *
    generalize p.funs[j].body = bo at *
    clear hcall hok hg h2 h3 h4 ha hf0 hb h5 h6 hj hwf h255
    have hj0 : (0 : Int) ≤ (j : Int) := by omega
    generalize p.funs.length = NF at *
    go_enter Try.func66, Try.ntmps66
    go_wp2_with fail
    refine hstep.out.mono ?_
    rintro e V1 (⟨hl, rfl, hgV, hE⟩ | ⟨hl, rfl, hgV, hE⟩)
    · have hl0 : s.left ≠ 0 := by omega
      have ho := HO.out
      rw [if_neg hl0] at ho
      subst ho
      obtain ⟨-, cf, b2, o2, g0, g1, g2, -, -, -, c0, hcf, cb, e0, e1, e2, e3, e4, hbd, -, -, -, -⟩ := HS.out V1 _ hgV hE
      obtain ⟨A0, d0, bb0, oo0, hv, -⟩ := hbd.at_
      simp only [Array.mk.injEq, List.cons.injEq, and_true] at hv
      obtain ⟨rfl, rfl, rfl⟩ := hv
      have l0 : rb < V1.heap.size := World.block_lt_of_cell? _ _ c0
      have l1 : b < V1.heap.size := World.block_lt_of_cell? _ _ cb
      have l2 : b2 < V1.heap.size := World.block_lt_of_cell? _ _ e0
      have HC1 := Lib.hid (fun (V2 : World) (k1 k2 : Nat) => HC.out V1 V2 k1 k2 _ _ _ hgV hE hbd hl)
      clear HC HS hgV hE hbd hstep HST hl hl0 HO
      go_wp2_with fail
      go_region
      all_goals go_wp2_with fail
      all_goals
        refine (HC1.out _ _ _ (below_three _ _ _ _) (Nat.le_succ _) (Nat.le_succ_of_le (Nat.le_succ _)) (three_new1 _ _ _ _) (three_new2 _ _ _ _)).mono ?_
        intro e V' h
        rcases h.ends with ⟨g, rfl, hP⟩ | ⟨ch, rfl, hP⟩
        · go_wp2_with fail
          go_ret
          exact hP
        · exact ⟨rfl, hP⟩
    · have ho := HO.out
      rw [if_pos hl] at ho
      subst ho
      exact ⟨rfl, HST.out hl _ hgV hE⟩
theorem call_other (T : TypeId) (hT : T = 90 ∨ T = 91 ∨ T = 117) (x ga : Value) (r : Value) (W : World) :
    Calls Try.prog 66 #[r, .iface T x, ga] W fun e w' => e = .panicked (stopV 4) ∧ W = w' := by
  rcases hT with rfl | rfl | rfl
  all_goals
    go_enter Try.func66, Try.ntmps66
    go_wp2_with (go_at_call 50; refine (stuck_any _).mono ?_; rintro e w' ⟨rfl, rfl⟩)
    exact ⟨rfl, rfl, rfl⟩
theorem call_any (hok : BodyOk rb B p inp fuel n) (hwf : ∀ g ∈ p.funs, WfA p.funs.length g.body) (f a : PV) {gf ga : Value} (hf : RepV rb m W f gf) (ha : RepV rb m W a ga) (hg : Good rb B p inp fuel s m W) (hn : s.left ≤ n) :
    Calls Try.prog 66 #[.pointer (some ⟨rb, 0, none⟩), gf, ga] W (EvPost rb B p inp fuel m W (callF p.funs (evF p.funs inp n) f a s)) := by
  have hst : ∀ e w', e = .panicked (stopV 4) ∧ W = w' → EvPost rb B p inp fuel m W (.stuck, s) e w' := fun e w' h => by
    obtain ⟨rfl, rfl⟩ := h
    exact .stuck (Evo.refl _ _ _) hg (thrown_one _ _)
  cases f with
  | fn i => exact call_fn hok hwf i a hf ha hg hn
  | int k => cases hf; exact (call_other _ (.inl rfl) _ _ _ W).mono hst
  | blk t l => cases hf; exact (call_other _ (.inr (.inl rfl)) _ _ _ W).mono hst
  | ref i => cases hf; exact (call_other _ (.inr (.inr rfl)) _ _ _ W).mono hst
end
end Go.Proofs.Ytnobggabjpcbfaa

/-
  The flat evaluator: what is raised is caught.
-/
set_option linter.unusedVariables false
set_option linter.unusedSimpArgs false
namespace Go.Proofs.Ytnobggabjpcbfaa
open Go.RowKit

/-! ### a store into a variable that no value of the run lies in -/
structure Odd (rb B : Nat) (m : Mem) (W : World) (b : Nat) (T : TypeId) (x : Value) : Prop where
  lies : W.heap[b]? = some (.cells #[x] T (0, 0))
  ty : T = 78 ∨ T = 4
  odd : ∀ U y, x ≠ .iface U y
  still : ¬ m.mut rb b
  lo : B ≤ b
section
variable {rb B : Nat} {p : FlatP} {inp : List Int} {fuel : Nat} {s : FSt} {m : Mem} {W : World} {b : Nat} {T : TypeId} {x : Value}
theorem Odd.heap (h : Odd rb B m W b T x) (v : Value) {k : Nat} (hk : k ≠ b) : (W.setCell ⟨b, 0, none⟩ v).heap[k]? = W.heap[k]? := Below.heap_setCell W _ _ k hk
theorem Odd.at_ (h : Odd rb B m W b T x) (v : Value) {k : Nat} {cs : Array Value} {U : TypeId} {fr : Nat × Nat} (hU : U ≠ 78 ∧ U ≠ 4) (ha : At rb m W k (.cells cs U fr)) : At rb m (W.setCell ⟨b, 0, none⟩ v) k (.cells cs U fr) := by
  refine ⟨(h.heap v ?_).trans ha.1, ha.2⟩
  rintro rfl
  have := h.lies.symm.trans ha.1
  simp only [Option.some.injEq, Obj.cells.injEq] at this
  rcases h.ty with h1 | h1
  · exact hU.1 (this.2.1.symm.trans h1)
  · exact hU.2 (this.2.1.symm.trans h1)
theorem Odd.rep (h : Odd rb B m W b T x) (v : Value) {p : PV} {g : Value} (hr : RepV rb m W p g) : RepV rb m (W.setCell ⟨b, 0, none⟩ v) p g := by
  induction hr with
  | int n => exact .int n
  | @blk tag kids bb g cap F hb hg hgm hl hp h8 hc hk ih =>
    refine .blk (h.at_ v (by decide) hb) (by simpa [World.setCell] using hg) hgm hl hp h8 (fun j hj => ?_) ih
    refine (cell_of_heap (h.heap v ?_) j).trans (hc j hj)
    rintro rfl
    obtain ⟨U, y, hF⟩ := (hk 0 (by omega)).shape
    have h0 := hc 0 (by omega)
    simp [World.cell?, h.lies, hF] at h0
    exact h.odd _ _ h0
  | fn h => exact .fn h
  | ref h => exact .ref h
theorem Odd.row (h : Odd rb B m W b T x) (v : Value) {l : List PV} {A : Option Addr} (hr : RowV rb m W l A) : RowV rb m (W.setCell ⟨b, 0, none⟩ v) l A := fun h0 => by
  obtain ⟨g, o, F, h1, h2, h3, h4, h5⟩ := hr h0
  refine ⟨g, o, F, h1, by simpa [World.setCell] using h2, h3, fun j hj => ?_, fun j hj => h.rep v (h5 j hj)⟩
  refine (cell_of_heap (h.heap v ?_) _).trans (h4 j hj)
  rintro rfl
  obtain ⟨U, y, hF⟩ := (h5 j hj).shape
  have h6 := h4 j hj
  rw [hF] at h6
  simp only [World.cell?, h.lies] at h6
  cases hoj : o + j with
  | zero => rw [hoj] at h6; simp at h6; exact h.odd _ _ h6
  | succ k => rw [hoj] at h6; simp at h6
theorem Odd.good (h : Odd rb B m W b T x) (v : Value) (hg : Good rb B p inp fuel s m W) : Good rb B p inp fuel s m (W.setCell ⟨b, 0, none⟩ v) := by
  have hst : Below B W (W.setCell ⟨b, 0, none⟩ v) := ⟨rfl, rfl, rfl, by simp [World.setCell], fun k hk => h.heap v (by have := h.lo; omega)⟩
  obtain ⟨f0, f1, f2, f3, Ai, ci, hr, hfl, hi, hci⟩ := hg.run
  refine ⟨by simpa [World.setCell] using hg.Bs, hg.rbB, hg.left, hg.fuelB, hg.bnd, ⟨f0, f1, f2, f3, Ai, ci, (h.heap v (fun e => h.still (.inl e.symm))).trans hr, hfl.kept hst, hi.below hst, hci⟩, ?_, hg.falen, ?_, hg.calen, ?_, hg.nodup, hg.rbca, hg.rbo, hg.oca, hg.caB⟩
  · refine hg.out.kept (row := some b) ⟨rfl, rfl, rfl, by simp [World.setCell], fun i hi hne => h.heap v (fun e => hne (by rw [e]))⟩ ?_
    cases ho : m.vo.ownBlock with
    | none => exact .inl rfl
    | some k => exact .inr fun e => h.still (.inr (.inl (ho.trans (by simpa using e))))
  · intro i hi'
    obtain ⟨b', A, cap, h1, h2, h3, h4, h5, h6⟩ := hg.fns i hi'
    exact ⟨b', A, cap, h1, h.at_ v (by decide) h2, h3, h4, h.row v h5, h6⟩
  · intro i hi'
    obtain ⟨b', gv, h1, h2, h3⟩ := hg.cells i hi'
    refine ⟨b', gv, h1, (h.heap v ?_).trans h2, h.rep v h3⟩
    rintro rfl
    exact h.still (.inr (.inr (List.mem_of_getElem? h1)))
theorem Odd.other (h : Odd rb B m W b T x) (v : Value) {c : Nat} {U : TypeId} {y : Value} (hc : Odd rb B m W c U y) (hne : c ≠ b) : Odd rb B m (W.setCell ⟨b, 0, none⟩ v) c U y :=
  ⟨(h.heap v hne).trans hc.lies, hc.ty, hc.odd, hc.still, hc.lo⟩
end
/-! ### the deferred closure -/
theorem caught1_idle (a b : Addr) (w : World) :
    CallsD Try.prog 75 #[.pointer (some a), .pointer (some b)] .returning w fun e u' w' => e = .returned (.tuple #[]) ∧ u' = .returning ∧ w' = w := by
  refine callsD_of_wpS Try.func75 rfl fun c₀ cs hu => ?_
  apply wpS_seq
  apply wpS_region
  simp [wpOpsS, go_sem, recoverD, hu, Try.ntmps75, Exit.thenS]
  refine wpS_of_wp ?_
  go_wp2_with fail
  cases c₀
  simp_all [bodyPostS, results, Try.results75]

theorem caught1_raised (ab bb : Nat) (T : TypeId) (y : Value) (older : List PanicEntry) (w : World) (ha : w.cell? ⟨ab, 0, none⟩ = some .nilIface) (hb : w.cell? ⟨bb, 0, none⟩ = some (.bool false)) (fa : w.frozen? ⟨ab, 0, none⟩ = false) (fb : w.frozen? ⟨bb, 0, none⟩ = false) (hab : ab ≠ bb) :
    CallsD Try.prog 75 #[.pointer (some ⟨ab, 0, none⟩), .pointer (some ⟨bb, 0, none⟩)] (.panicking ({ v := .iface 80 (.agg #[.iface T y]), recovered := false } :: older)) w
      fun e u' w' => e = .returned (.tuple #[]) ∧ u' = .panicking ({ v := .iface 80 (.agg #[.iface T y]), recovered := true } :: older) ∧ w' = ((w.alloc (.cells #[.iface T y] 80)).setCell ⟨ab, 0, none⟩ (.iface T y)).setCell ⟨bb, 0, none⟩ (.bool true) := by
  have hal := World.block_lt_of_cell? _ _ ha
  have hbl := World.block_lt_of_cell? _ _ hb
  have hn := World.new_ne _ _ ha
  have hn' := World.new_ne _ _ hb
  refine callsD_of_wpS Try.func75 rfl fun c₀ cs hu => ?_
  apply wpS_seq
  apply wpS_region
  simp [wpOpsS, go_sem, recoverD, hu, Try.ntmps75, Exit.thenS]
  refine wpS_of_wp (Code.wp_mono (Q := fun e a w' => e = .normal ∧ a.defers = [] ∧ w' = ((w.alloc (.cells #[.iface T y] 80)).setCell ⟨ab, 0, none⟩ (.iface T y)).setCell ⟨bb, 0, none⟩ (.bool true)) ?_ ?_)
  · rintro e a w' ⟨rfl, h1, rfl⟩
    cases c₀
    simp_all [bodyPostS, results, Try.results75]
  simp only [Array.replicate_succ, Array.replicate_zero, List.push_toArray, List.setIfInBounds_toArray, List.set_cons_zero, List.set_cons_succ, List.append_toArray, List.nil_append, List.cons_append]
  clear hu
  go_wp2_with fail

theorem caught1_stop (a b : Addr) (x : Value) (older : List PanicEntry) (w : World) :
    CallsD Try.prog 75 #[.pointer (some a), .pointer (some b)] (.panicking ({ v := .iface 76 x, recovered := false } :: older)) w
      fun e u' w' => e = .panicked [{ v := .iface 76 x, recovered := false }] ∧ u' = .panicking ({ v := .iface 76 x, recovered := true } :: older) ∧ w' = w := by
  refine callsD_of_wpS Try.func75 rfl fun c₀ cs hu => ?_
  apply wpS_seq
  apply wpS_region
  simp [wpOpsS, go_sem, recoverD, hu, Try.ntmps75, Exit.thenS]
  refine wpS_of_wp (Code.wp_mono (Q := fun e a w' => e = .panic [{ v := .iface 76 x, recovered := false }] ∧ a.defers = [] ∧ w' = w) ?_ ?_)
  · rintro e a w' ⟨rfl, h1, rfl⟩
    cases c₀
    simp_all [bodyPostS, results, Try.results75]
  simp only [Array.replicate_succ, Array.replicate_zero, List.push_toArray, List.setIfInBounds_toArray, List.set_cons_zero, List.set_cons_succ, List.append_toArray, List.nil_append, List.cons_append]
  clear hu
  go_wp2_with fail

/-- how a call ends that is watched -/
inductive CaughtPost (rb B : Nat) (p : FlatP) (inp : List Int) (fuel : Nat) (m : Mem) (W : World) : FOut → Ending → World → Prop
  | val {v : PV} {s : FSt} {m' : Mem} {W' : World} {g : Value} (hk : Evo rb m m' W W') (hg : Good rb B p inp fuel s m' W') (hv : RepV rb m' W' v g) : CaughtPost rb B p inp fuel m W (.val v, s) (.returned (.tuple #[g, .bool false])) W'
  | raised {v : PV} {s : FSt} {m' : Mem} {W' : World} {g : Value} (hk : Evo rb m m' W W') (hg : Good rb B p inp fuel s m' W') (hv : RepV rb m' W' v g) : CaughtPost rb B p inp fuel m W (.raised v, s) (.returned (.tuple #[g, .bool true])) W'
  | stuck {s : FSt} {m' : Mem} {W' : World} {ch : List PanicEntry} (hk : Evo rb m m' W W') (hg : Good rb B p inp fuel s m' W') (hth : Thrown 76 (.agg #[.int .i64 4]) ch) : CaughtPost rb B p inp fuel m W (.stuck, s) (.panicked ch) W'
  | cut {s : FSt} {m' : Mem} {W' : World} {ch : List PanicEntry} (hk : Evo rb m m' W W') (hg : Good rb B p inp fuel s m' W') (hth : Thrown 76 (.agg #[.int .i64 3]) ch) : CaughtPost rb B p inp fuel m W (.cut, s) (.panicked ch) W'

theorem settle_thrown {T : TypeId} {x : Value} {older : List PanicEntry} (h : ∀ p ∈ older, p.goexit = false) : settle (.panicking ({ v := .iface T x, recovered := true } :: older)) = .returning := by
  have : older.dropWhile (!·.goexit) = [] := by
    clear x
    induction older with
    | nil => rfl
    | cons a l ih => rw [List.dropWhile_cons_of_pos (by simp [h a (by simp)])]; exact ih (fun p hp => h p (by simp [hp]))
  simp [settle, this]
theorem Thrown.again {T : TypeId} {x : Value} {older : List PanicEntry} (h : ∀ p ∈ older, p.goexit = false) : Thrown T x ({ v := .iface T x, recovered := false } :: { v := .iface T x, recovered := true } :: older) :=
  ⟨_, rfl, fun p hp => by rcases List.mem_cons.1 hp with rfl | hp; rfl; exact h p hp⟩
set_option maxRecDepth 100000 in
set_option maxHeartbeats 2000000 in
theorem caught_any {rb B : Nat} {p : FlatP} {inp : List Int} {fuel n : Nat} (hok : BodyOk rb B p inp fuel n) (hwf : ∀ g ∈ p.funs, WfA p.funs.length g.body) (f : PV) (s : FSt) (m : Mem) (W : World) (gf : Value) (hf : RepV rb m W f gf) (hg : Good rb B p inp fuel s m W) (hn : s.left ≤ n) :
    Calls Try.prog 73 #[.pointer (some ⟨rb, 0, none⟩), gf] W (CaughtPost rb B p inp fuel m W (callF p.funs (evF p.funs inp n) f (.int 0) s)) := by
  obtain ⟨Tf, xf, rfl⟩ := hf.shape
  have hk1 : Evo rb m m W (W.alloc (.cells #[.nilIface] 78)) := Evo.alloc _ _ _ _
  have hg1 := hg.below ((Below.refl _ _).alloc (Nat.le_refl _) (.cells #[.nilIface] 78))
  have hk2 : Evo rb m m (W.alloc (.cells #[.nilIface] 78)) ((W.alloc (.cells #[.nilIface] 78)).alloc (.cells #[.bool false] 4)) := Evo.alloc _ _ _ _
  have hg2 := hg1.below ((Below.refl _ _).alloc (Nat.le_refl _) (.cells #[.bool false] 4))
  have hf2 := (hf.evo hk1).evo hk2
  have a1 := (at_new (fun k hk => hg.mutLt hk) #[.nilIface] 78).evo hk2
  have a2 : At rb m ((W.alloc (.cells #[.nilIface] 78)).alloc (.cells #[.bool false] 4)) (W.heap.size + 1) (.cells #[.bool false] 4) := by
    have := at_new (fun k hk => hg1.mutLt hk) #[.bool false] 4
    simpa using this
  have hBs := hg.Bs
  have HC := Lib.hid ((call_any hok hwf f (.int 0) hf2 (.int 0) hg2 hn).mono fun e V h => (show EvPost rb B p inp fuel m ((W.alloc (.cells #[.nilIface] 78)).alloc (.cells #[.bool false] 4)) (callF p.funs (evF p.funs inp n) f (.int 0) s) e V from h))
  generalize callF p.funs (evF p.funs inp n) f (.int 0) s = o at HC ⊢
  have hW2 : Evo rb m m W ((W.alloc (.cells #[.nilIface] 78)).alloc (.cells #[.bool false] 4)) := hk1.trans hk2
  clear hok hwf hk1 hk2 hg1 hg2 hf hf2
  go_enter_defers Try.func73, Try.ntmps73
  go_wp2_with fail
  refine HC.out.mono ?_
  have hne : W.heap.size ≠ W.heap.size + 1 := by omega
  have hne' : W.heap.size + 1 ≠ W.heap.size := by omega
  intro e V h
  cases h with
  | @val v s' m' _ g hk hg' hv =>
    have b1 := a1.evo hk
    have b2 := a2.evo hk
    have O1 : Odd rb B m' V W.heap.size 78 .nilIface := ⟨b1.1, .inl rfl, by intros; simp, b1.2, hBs⟩
    have O2 : Odd rb B m' V (W.heap.size + 1) 4 (.bool false) := ⟨b2.1, .inr rfl, by intros; simp, b2.2, by omega⟩
    have c1 := at_cell0 b1 (i := 0) rfl
    have c2 := at_cell0 b2 (i := 0) rfl
    have d1 := at_frozen b1 0
    have d2 := at_frozen b2 0
    obtain ⟨Tg, xg, rfl⟩ := hv.shape
    have HP : CaughtPost rb B p inp fuel m W (.val v, s') (.returned (.tuple #[.iface Tg xg, .bool false])) ((V.setCell ⟨W.heap.size, 0, none⟩ (.iface Tg xg)).setCell ⟨W.heap.size + 1, 0, none⟩ (.bool false)) :=
      .val (((hW2.trans hk).setNew (Nat.le_refl _) _ _).setNew (by omega) _ _) ((O1.other _ O2 hne').good _ (O1.good _ hg')) ((O1.other _ O2 hne').rep _ (O1.rep _ hv))
    have HP := Lib.hid HP
    simp only [List.getElem_toArray, List.getElem_cons_zero] at c1 c2
    clear b1 b2 O1 O2 hv hg' hk a1 a2 hW2 hg HC
    go_wp2_with fail
    refine leaves_cons (f := 75) (args := #[.pointer (some ⟨W.heap.size, 0, none⟩), .pointer (some ⟨W.heap.size + 1, 0, none⟩)]) (by simp) (by simp [go_sem]) ?_
    refine (caught1_idle _ _ _).mono ?_
    rintro e u' w'' ⟨rfl, rfl, rfl⟩
    simp [Leaves, settle, results, Try.results73, go_sem, *]
    try exact HP.out
  | @raised v s' m' _ g ch hk hg' hv hkey hth =>
    obtain ⟨older, rfl, hold⟩ := hth
    have b1 := a1.evo hk
    have b2 := a2.evo hk
    obtain ⟨Tg, xg, rfl⟩ := hv.shape
    have hal : Evo rb m' m' V (V.alloc (.cells #[.iface Tg xg] 80)) := Evo.alloc _ _ _ _
    have hga := hg'.below ((Below.refl _ _).alloc (Nat.le_refl _) (.cells #[.iface Tg xg] 80))
    have b1' := b1.evo hal
    have b2' := b2.evo hal
    have O1 : Odd rb B m' (V.alloc (.cells #[.iface Tg xg] 80)) W.heap.size 78 .nilIface := ⟨b1'.1, .inl rfl, by intros; simp, b1'.2, hBs⟩
    have O2 : Odd rb B m' (V.alloc (.cells #[.iface Tg xg] 80)) (W.heap.size + 1) 4 (.bool false) := ⟨b2'.1, .inr rfl, by intros; simp, b2'.2, by omega⟩
    have c1 := at_cell0 b1 (i := 0) rfl
    have c2 := at_cell0 b2 (i := 0) rfl
    have d1 := at_frozen b1 0
    have d2 := at_frozen b2 0
    have HP : CaughtPost rb B p inp fuel m W (.raised v, s') (.returned (.tuple #[.iface Tg xg, .bool true])) (((V.alloc (.cells #[.iface Tg xg] 80)).setCell ⟨W.heap.size, 0, none⟩ (.iface Tg xg)).setCell ⟨W.heap.size + 1, 0, none⟩ (.bool true)) :=
      .raised ((((hW2.trans hk).trans hal).setNew (Nat.le_refl _) _ _).setNew (by omega) _ _) ((O1.other _ O2 hne').good _ (O1.good _ hga)) ((O1.other _ O2 hne').rep _ (O1.rep _ (hv.evo hal)))
    have HP := Lib.hid HP
    have l1 := World.block_lt_of_cell? _ _ c1
    have l2 := World.block_lt_of_cell? _ _ c2
    simp only [List.getElem_toArray, List.getElem_cons_zero] at c1 c2
    refine leaves_cons (f := 75) (args := #[.pointer (some ⟨W.heap.size, 0, none⟩), .pointer (some ⟨W.heap.size + 1, 0, none⟩)]) (by simp) (by simp [go_sem]) ?_
    refine (caught1_raised _ _ _ _ _ _ c1 c2 d1 d2 hne).mono ?_
    rintro e u' w'' ⟨rfl, rfl, rfl⟩
    show Leaves _ _ _ _ [] (settle _) _
    rw [settle_thrown hold]
    have k1 : (((V.alloc (.cells #[.iface Tg xg] 80)).setCell ⟨W.heap.size, 0, none⟩ (.iface Tg xg)).setCell ⟨W.heap.size + 1, 0, none⟩ (.bool true)).cell? ⟨W.heap.size, 0, none⟩ = some (.iface Tg xg) := by
      rw [World.cell?_setCell_far _ _ _ _ (by simp), World.cell?_setCell_same' _ _ _ (by rw [World.cell?_alloc_lt _ _ _ l1, c1]; rfl)]
    have k2 : (((V.alloc (.cells #[.iface Tg xg] 80)).setCell ⟨W.heap.size, 0, none⟩ (.iface Tg xg)).setCell ⟨W.heap.size + 1, 0, none⟩ (.bool true)).cell? ⟨W.heap.size + 1, 0, none⟩ = some (.bool true) := by
      rw [World.cell?_setCell_same' _ _ _ (by rw [World.cell?_setCell_far _ _ _ _ (by simp), World.cell?_alloc_lt _ _ _ l2, c2]; rfl)]
    simp [Leaves, results, Try.results73, go_sem, k1, k2]
    exact HP.out
  | @stuck s' m' _ ch hk hg' hth =>
    obtain ⟨older, rfl, hold⟩ := hth
    refine leaves_cons (f := 75) (args := #[.pointer (some ⟨W.heap.size, 0, none⟩), .pointer (some ⟨W.heap.size + 1, 0, none⟩)]) (by simp) (by simp [go_sem]) ?_
    refine (caught1_stop _ _ _ _ _).mono ?_
    rintro e u' w'' ⟨rfl, rfl, rfl⟩
    exact CaughtPost.stuck (hW2.trans hk) hg' (Thrown.again hold)
  | @cut s' m' _ ch hk hg' hth =>
    obtain ⟨older, rfl, hold⟩ := hth
    refine leaves_cons (f := 75) (args := #[.pointer (some ⟨W.heap.size, 0, none⟩), .pointer (some ⟨W.heap.size + 1, 0, none⟩)]) (by simp) (by simp [go_sem]) ?_
    refine (caught1_stop _ _ _ _ _).mono ?_
    rintro e u' w'' ⟨rfl, rfl, rfl⟩
    exact CaughtPost.cut (hW2.trans hk) hg' (Thrown.again hold)
end Go.Proofs.Ytnobggabjpcbfaa

/-
  The flat evaluator: primitives.
-/
set_option linter.unusedVariables false
set_option linter.unusedSimpArgs false
namespace Go.Proofs.Ytnobggabjpcbfaa
open Go.RowKit

section
variable {rb B : Nat} {p : FlatP} {inp : List Int} {fuel n : Nat} {s : FSt} {m : Mem} {W : World}

theorem prim_ref (hg : Good rb B p inp fuel s m W) {a : PV} {T : TypeId} {x : Value} (ha : RepV rb m W a (.iface T x)) {g cap : Nat} (c0 : W.cell? ⟨g, 0, none⟩ = some (.iface T x)) :
    Calls Try.prog 67 #[.pointer (some ⟨rb, 0, none⟩), .int .i64 10, .slice (some ⟨g, 0, none⟩) 1 cap] W (EvPost rb B p inp fuel m W (.val (.ref s.cells.length), { s with cells := s.cells ++ [a] })) := by
  obtain ⟨h1, h2, h3⟩ := hg.addCell ha
  have HP := Lib.hid (EvPost.val h2 h1 h3)
  clear h1 h2 h3 hg ha
  go_enter Try.func67, Try.ntmps67
  go_wp2_with fail
  go_ret
  exact HP.out

theorem prim_get_ref (hg : Good rb B p inp fuel s m W) {i b : Nat} (hb : m.ca[i]? = some b) {g cap : Nat} (c0 : W.cell? ⟨g, 0, none⟩ = some (.iface 117 (.pointer (some ⟨b, 0, none⟩)))) :
    Calls Try.prog 67 #[.pointer (some ⟨rb, 0, none⟩), .int .i64 11, .slice (some ⟨g, 0, none⟩) 1 cap] W (EvPost rb B p inp fuel m W (.val (s.cells[i]?.getD default), s)) := by
  have hi : i < s.cells.length := by rw [← hg.calen]; exact (List.getElem?_eq_some_iff.1 hb).1
  obtain ⟨b', gv, h1, h2, h3⟩ := hg.cells i hi
  rw [hb] at h1; cases h1
  obtain ⟨Tv, xv, rfl⟩ := h3.shape
  have cb : W.cell? ⟨b, 0, none⟩ = some (.iface Tv xv) := by simp [World.cell?, h2]
  have hv : s.cells[i]?.getD default = s.cells[i] := by simp [hi]
  rw [hv]
  have HP := Lib.hid (EvPost.val (Evo.refl _ _ _) hg h3)
  clear hv h2 h3 hg hb
  go_enter Try.func67, Try.ntmps67
  go_wp2_with fail
  go_ret
  exact HP.out

theorem prim_cell_other {p : Int} {k : Nat} (hp : (p = 11 ∧ k = 1) ∨ (p = 12 ∧ k = 2)) (T : TypeId) (hT : T = 90 ∨ T = 91 ∨ T = 109) (x : Value) {g cap : Nat} (c0 : W.cell? ⟨g, 0, none⟩ = some (.iface T x)) (r : Value) :
    Calls Try.prog 67 #[r, .int .i64 p, .slice (some ⟨g, 0, none⟩) k cap] W fun e w' => e = .panicked (stopV 4) ∧ W = w' := by
  rcases hp with ⟨rfl, rfl⟩ | ⟨rfl, rfl⟩
  all_goals
    rcases hT with rfl | rfl | rfl
    all_goals
      go_enter Try.func67, Try.ntmps67
      go_wp2_with (go_at_call 50; refine (stuck_any _).mono ?_; rintro e w' ⟨rfl, rfl⟩)
      exact ⟨rfl, rfl, rfl⟩

theorem prim_set_ref (hg : Good rb B p inp fuel s m W) {i b : Nat} (hb : m.ca[i]? = some b) {a : PV} {T : TypeId} {x : Value} (ha : RepV rb m W a (.iface T x)) {g cap : Nat} (c0 : W.cell? ⟨g, 0, none⟩ = some (.iface 117 (.pointer (some ⟨b, 0, none⟩)))) (c1 : W.cell? ⟨g, 1, none⟩ = some (.iface T x)) :
    Calls Try.prog 67 #[.pointer (some ⟨rb, 0, none⟩), .int .i64 12, .slice (some ⟨g, 0, none⟩) 2 cap] W (EvPost rb B p inp fuel m W (.val (.int 0), { s with cells := s.cells.set i a })) := by
  have hi : i < s.cells.length := by rw [← hg.calen]; exact (List.getElem?_eq_some_iff.1 hb).1
  obtain ⟨b', gv, h1, h2, h3⟩ := hg.cells i hi
  rw [hb] at h1; cases h1
  have cb : W.cell? ⟨b, 0, none⟩ = some gv := by simp [World.cell?, h2]
  have fb : W.frozen? ⟨b, 0, none⟩ = false := by simp [World.frozen?, h2]
  obtain ⟨q1, q2⟩ := hg.setRef hb ha
  have HP := Lib.hid (EvPost.val q2 q1 (.int 0))
  clear h2 h3 hg hb q1 q2 ha
  go_enter Try.func67, Try.ntmps67
  go_wp2_with fail
  go_ret
  exact HP.out

theorem prim_read_none (hg : Good rb B p inp fuel s m W) (hp : inp.length ≤ s.asked) (v : Value) :
    Calls Try.prog 67 #[.pointer (some ⟨rb, 0, none⟩), .int .i64 14, v] W (EvPost rb B p inp fuel m W (.raised (.int 1), { s with asked := s.asked + 1 })) := by
  have hg' := hg.past hp
  obtain ⟨f0, f1, f2, f3, Ai, ci, hr, hfl, hi, hci⟩ := hg.run
  have h1 : inp.drop s.asked = [] := List.drop_eq_nil_iff.2 hp
  have cb : W.cell? ⟨rb, 4, none⟩ = some (.slice Ai 0 ci) := by simp [World.cell?, hr, h1]
  have HP := Lib.hid (EvPost.raised (Evo.refl rb m W) hg' (.int 1) ⟨1, rfl⟩ (thrown_one _ _))
  clear hg hg' hr hfl hi hci h1
  go_enter Try.func67, Try.ntmps67
  go_wp2_with fail
  exact ⟨rfl, HP.out⟩

theorem prim_read_some (hg : Good rb B p inp fuel s m W) (hp : s.asked < inp.length) (v : Value) :
    Calls Try.prog 67 #[.pointer (some ⟨rb, 0, none⟩), .int .i64 14, v] W (EvPost rb B p inp fuel m W (.val (.int (wrap31 (nth inp s.asked))), { s with asked := s.asked + 1 })) := by
  obtain ⟨f0, f1, f2, f3, Ai, ci, hr, hfl, hi, hci⟩ := hg.run
  have hdrop : inp.drop s.asked = nth inp s.asked :: inp.drop (s.asked + 1) := by
    rw [nth_eq _ hp]; exact List.drop_eq_getElem_cons hp
  have hfb : W.frozen? ⟨rb, 4, none⟩ = false := by simp [World.frozen?, hr]
  have hlen : (inp.drop s.asked).length = (inp.drop (s.asked + 1)).length + 1 := by rw [hdrop]; rfl
  obtain ⟨b, o, rfl, hlt, hc⟩ := hi.at_ (by omega)
  have cb : W.cell? ⟨rb, 4, none⟩ = some (.slice (some ⟨b, o, none⟩) ((inp.drop (s.asked + 1)).length + 1) ci) := by simp [World.cell?, hr, hlen]
  have c0 : W.cell? ⟨b, o, none⟩ = some (.int .i64 (nth inp s.asked)) := by
    have := hc 0 (by omega)
    rw [hdrop] at this
    simpa [nth] using this
  have h64 := hi.1
  have hci' : (inp.drop (s.asked + 1)).length + 1 ≤ ci := by omega
  have hL : (inp.drop (s.asked + 1)).length * 8 ≤ 140737488351232 := by omega
  have hc' : ∀ j, j < (inp.drop (s.asked + 1)).length → W.cell? ⟨b, o + 1 + j, none⟩ = some (.int .i64 (nth (inp.drop (s.asked + 1)) j)) := fun j hj => by
    have := hc (j + 1) (by omega)
    rw [hdrop] at this
    rw [show o + 1 + j = o + (j + 1) by omega, this]
    simp [nth]
  have HP := Lib.hid (fun (A' : Option Addr) (c' : Nat) (hA : 0 < (inp.drop (s.asked + 1)).length → A' = some ⟨b, o + 1, none⟩) (hcc : (inp.drop (s.asked + 1)).length ≤ c') =>
    (show EvPost rb B p inp fuel m W (.val (.int (wrap31 (nth inp s.asked))), { s with asked := s.asked + 1 }) (.returned (.iface 90 (.int .i64 (wrap31 (nth inp s.asked))))) (W.setCell ⟨rb, 4, none⟩ (.slice A' (inp.drop (s.asked + 1)).length c')) from by
      obtain ⟨q1, q2⟩ := hg.read (Ai := A') (ci := c') (⟨hL, by
        by_cases h0 : inp.drop (s.asked + 1) = []
        · exact .inl h0
        · have := List.length_pos_iff.2 h0
          exact .inr ⟨b, o + 1, hA this, hlt, hc'⟩⟩) hcc
      exact .val q2 q1 (.int _)))
  generalize (inp.drop (s.asked + 1)).length = L at *
  generalize EvPost rb B p inp fuel m W (.val (.int (wrap31 (nth inp s.asked))), { s with asked := s.asked + 1 }) = PP at *
  generalize nth inp s.asked = z at *
  have hL0 : ((L : Int) + 1 == 0) = false := by simp; omega
  have hL1 : (1 : Int) ≤ (L : Int) + 1 := by omega
  have hL2 : (L : Int) + 1 ≤ (ci : Int) := by omega
  have hL3 : (0 : Int) < (L : Int) + 1 := by omega
  clear hg hp hr hfl hi hc hc' hdrop hlen hci h64
  go_enter Try.func67, Try.ntmps67
  go_wp2_with (go_at_call 72; refine (wrap_any _ _).mono ?_; rintro e w' ⟨rfl, rfl⟩)
  all_goals exact HP.out _ _ (by intro h; first | rfl | omega) (by omega)

theorem prim_raise (hg : Good rb B p inp fuel s m W) {a : PV} {T : TypeId} {x : Value} (ha : RepV rb m W a (.iface T x)) {g cap : Nat} (c0 : W.cell? ⟨g, 0, none⟩ = some (.iface T x)) :
    Calls Try.prog 67 #[.pointer (some ⟨rb, 0, none⟩), .int .i64 15, .slice (some ⟨g, 0, none⟩) 1 cap] W (EvPost rb B p inp fuel m W (match keyOf a with | some _ => (.raised a, s) | none => (.stuck, s))) := by
  cases hk : keyOf a with
  | some k =>
    have HK := Lib.hid ((key_any ha).mono (R' := fun e w' => e = .returned (.int .i64 k) ∧ W = w') (by
      rintro e w' (⟨n, hn, rfl, rfl⟩ | ⟨hn, rfl, rfl⟩)
      · rw [hk] at hn; cases hn; exact ⟨rfl, rfl⟩
      · rw [hk] at hn; cases hn))
    have HP := Lib.hid (EvPost.raised (Evo.refl rb m W) hg ha ⟨k, hk⟩ (thrown_one _ _))
    clear hg ha hk
    go_enter Try.func67, Try.ntmps67
    go_wp2_with (go_at_call 35; refine HK.out.mono ?_; rintro e w' ⟨rfl, rfl⟩)
    exact ⟨rfl, HP.out⟩
  | none =>
    have HK := Lib.hid ((key_any ha).mono (R' := fun e w' => e = .panicked (stopV 4) ∧ W = w') (by
      rintro e w' (⟨n, hn, rfl, rfl⟩ | ⟨hn, rfl, rfl⟩)
      · rw [hk] at hn; cases hn
      · exact ⟨rfl, rfl⟩))
    have HP := Lib.hid (EvPost.stuck (Evo.refl rb m W) hg (thrown_one _ _))
    clear hg ha hk
    go_enter Try.func67, Try.ntmps67
    go_wp2_with (go_at_call 35; refine HK.out.mono ?_; rintro e w' ⟨rfl, rfl⟩)
    exact ⟨rfl, HP.out⟩

end
end Go.Proofs.Ytnobggabjpcbfaa
