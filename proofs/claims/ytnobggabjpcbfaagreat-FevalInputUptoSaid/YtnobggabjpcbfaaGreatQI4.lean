/-
 4 texts of this seat in one: H1 H2 H3 H4.
-/
import Derived.Test.YtnobggabjpcbfaaGreatQI3
import Derived.Deep.LoopGhost
import Derived.RangeFuncRecord
import Derived.Laws.EntriesVeiled
import Derived.Maps.AppendAt
import Derived.Maps.OwnSet
import Derived.Recover
import Derived.Deep.RegionLaw
import Derived.Deep.RegionHeld
import Derived.Deep.RegionHeld2
set_option maxRecDepth 100000
set_option maxHeartbeats 16000000
set_option linter.unusedVariables false
set_option linter.unusedSimpArgs false
namespace Go.Proofs.YtnobggabjpcbfaaGreat
open Go.RowKit
/-! ### what a run may turn -/
structure Mem where
 fa : List Nat
 ca : List Nat
 vo : Value
def Mem.mut (rb : Nat) (m : Mem) (k : Nat) : Prop := k = rb ∨ m.vo.ownBlock = some k ∨ k ∈ m.ca
structure Evo (rb : Nat) (m m' : Mem) (W W' : World) : Prop where
 os : W'.os = W.os
 tape : W'.tape = W.tape
 output : W'.output = W.output
 size : W.heap.size ≤ W'.heap.size
 same : ∀ k, k < W.heap.size → ¬ m.mut rb k → W'.heap[k]? = W.heap[k]?
 fresh : ∀ k, m'.mut rb k → m.mut rb k ∨ W.heap.size ≤ k
 fa : m.fa <+: m'.fa
 ca : m.ca <+: m'.ca
theorem Evo.refl (rb : Nat) (m : Mem) (W : World) : Evo rb m m W W := ⟨rfl, rfl, rfl, Nat.le_refl _, fun _ _ _ => rfl, fun _ h => .inl h, List.prefix_refl _, List.prefix_refl _⟩
theorem Evo.trans {rb : Nat} {a b c : Mem} {A B C : World} (h : Evo rb a b A B) (k : Evo rb b c B C) : Evo rb a c A C :=
 ⟨k.os.trans h.os, k.tape.trans h.tape, k.output.trans h.output, Nat.le_trans h.size k.size,
  fun i hi hm => (k.same i (Nat.lt_of_lt_of_le hi h.size) (fun hb => by rcases h.fresh i hb with hb | hb; exact hm hb; omega)).trans (h.same i hi hm),
  fun i hi => by
   rcases k.fresh i hi with hb | hb
   · exact h.fresh i hb
   · exact .inr (Nat.le_trans h.size hb),
  h.fa.trans k.fa, h.ca.trans k.ca⟩
theorem Evo.below {rb : Nat} {m : Mem} {W W' : World} (h : Below W.heap.size W W') : Evo rb m m W W' :=
 ⟨h.os, h.tape, h.output, h.size, fun k hk _ => h.block k hk, fun _ h => .inl h, List.prefix_refl _, List.prefix_refl _⟩
theorem Evo.alloc (rb : Nat) (m : Mem) (W : World) (o : Obj) : Evo rb m m W (W.alloc o) := Evo.below ((Below.refl _ _).alloc (Nat.le_refl _) _)
theorem Evo.setCell {rb : Nat} {m : Mem} (W : World) {b : Nat} (o : Nat) (v : Value) (hb : m.mut rb b) : Evo rb m m W (W.setCell ⟨b, o, none⟩ v) :=
 ⟨rfl, rfl, rfl, by simp [World.setCell], fun k hk hm => Below.heap_setCell W _ _ k (fun e => hm (by subst e; exact hb)), fun _ h => .inl h, List.prefix_refl _, List.prefix_refl _⟩
theorem Evo.drew {rb : Nat} {m m' : Mem} {W W' : World} (h : Evo rb m m' W W') : Evo rb m m' W W'.drew := ⟨h.os, h.tape, h.output, h.size, h.same, h.fresh, h.fa, h.ca⟩
theorem Evo.more {rb : Nat} {m m' m'' : Mem} {W W' : World} (h : Evo rb m m' W W') (hfa : m'.fa <+: m''.fa) (hca : m'.ca <+: m''.ca) (hf : ∀ k, m''.mut rb k → m.mut rb k ∨ W.heap.size ≤ k) : Evo rb m m'' W W' :=
 ⟨h.os, h.tape, h.output, h.size, h.same, hf, h.fa.trans hfa, h.ca.trans hca⟩
theorem Evo.setNew {rb : Nat} {m m' : Mem} {W W' : World} (h : Evo rb m m' W W') {b : Nat} (hb : W.heap.size ≤ b) (o : Nat) (v : Value) : Evo rb m m' W (W'.setCell ⟨b, o, none⟩ v) :=
 ⟨h.os, h.tape, h.output, by simpa [World.setCell] using h.size, fun k hk hm => (Below.heap_setCell W' _ _ k (by show k ≠ b; omega)).trans (h.same k hk hm), h.fresh, h.fa, h.ca⟩
def At (rb : Nat) (m : Mem) (W : World) (b : Nat) (o : Obj) : Prop := W.heap[b]? = some o ∧ ¬ m.mut rb b
theorem Evo.still {rb : Nat} {m m' : Mem} {W W' : World} (hk : Evo rb m m' W W') {k : Nat} (h : k < W.heap.size) (hn : ¬ m.mut rb k) : ¬ m'.mut rb k := fun hb => by
 rcases hk.fresh k hb with hb | hb
 · exact hn hb
 · omega
theorem At.evo {rb : Nat} {m m' : Mem} {W W' : World} {b : Nat} {o : Obj} (h : At rb m W b o) (hk : Evo rb m m' W W') : At rb m' W' b o :=
 have hlt := (Array.getElem?_eq_some_iff.1 h.1).1
 ⟨(hk.same b hlt h.2).trans h.1, hk.still hlt h.2⟩
inductive RepV (rb : Nat) (m : Mem) (W : World) : PV → Value → Prop
 | int (n : Int) : RepV rb m W (.int n) (.iface 115 (.int .i64 n))
 | blk {tag : Int} {kids : List PV} {b g cap : Nat} {F : Nat → Value} (hb : At rb m W b (.cells #[.int .i64 tag, .slice (some ⟨g, 0, none⟩) kids.length cap] 119 (0, 0)))
  (hg : g < W.heap.size) (hgm : ¬ m.mut rb g) (hl : kids.length ≤ cap) (h0 : 0 < kids.length) (h8 : kids.length ≤ 255) (hc : ∀ j, j < kids.length → W.cell? ⟨g, j, none⟩ = some (F j)) (hk : ∀ j (h : j < kids.length), RepV rb m W kids[j] (F j)) :
  RepV rb m W (.blk tag kids) (.iface 116 (.pointer (some ⟨b, 0, none⟩)))
 | fn {i b : Nat} (h : m.fa[i]? = some b) : RepV rb m W (.fn i) (.iface 145 (.pointer (some ⟨b, 0, none⟩)))
 | ref {i b : Nat} (h : m.ca[i]? = some b) : RepV rb m W (.ref i) (.iface 156 (.pointer (some ⟨b, 0, none⟩)))
theorem prefix_get {α : Type} {a b : List α} (h : a <+: b) {i : Nat} {x : α} (hx : a[i]? = some x) : b[i]? = some x := by
 obtain ⟨r, rfl⟩ := h
 rw [List.getElem?_append_left (List.getElem?_eq_some_iff.1 hx).1]; exact hx
theorem cell_of_heap {W W' : World} {g : Nat} (h : W'.heap[g]? = W.heap[g]?) (o : Nat) : W'.cell? ⟨g, o, none⟩ = W.cell? ⟨g, o, none⟩ := World.cell?_of_block (w := W) h
theorem RepV.evo {rb : Nat} {m m' : Mem} {W W' : World} (hk : Evo rb m m' W W') {v : PV} {g : Value} (h : RepV rb m W v g) : RepV rb m' W' v g := by
 induction h with
 | int n => exact .int n
 | blk hb hg hgm hl h0 h8 hc _ ih =>
  exact .blk (hb.evo hk) (Nat.lt_of_lt_of_le hg hk.size) (hk.still hg hgm) hl h0 h8 (fun j hj => (cell_of_heap (hk.same _ hg hgm) j).trans (hc j hj)) ih
 | fn h => exact .fn (prefix_get hk.fa h)
 | ref h => exact .ref (prefix_get hk.ca h)
theorem RepV.shape {rb : Nat} {m : Mem} {W : World} {v : PV} {g : Value} (h : RepV rb m W v g) : ∃ T p, g = .iface T p := by
 cases h <;> exact ⟨_, _, rfl⟩
def RowV (rb : Nat) (m : Mem) (W : World) (l : List PV) (A : Option Addr) : Prop :=
 0 < l.length → ∃ (g o : Nat) (F : Nat → Value), A = some ⟨g, o, none⟩ ∧ g < W.heap.size ∧ ¬ m.mut rb g ∧ (∀ j, j < l.length → W.cell? ⟨g, o + j, none⟩ = some (F j)) ∧ ∀ j (h : j < l.length), RepV rb m W l[j] (F j)
theorem RowV.evo {rb : Nat} {m m' : Mem} {W W' : World} (hk : Evo rb m m' W W') {l : List PV} {A : Option Addr} (h : RowV rb m W l A) : RowV rb m' W' l A := fun h0 => by
 obtain ⟨g, o, F, rfl, hg, hm, hc, hr⟩ := h h0
 exact ⟨g, o, F, rfl, Nat.lt_of_lt_of_le hg hk.size, hk.still hg hm, fun j hj => (cell_of_heap (hk.same _ hg hm) _).trans (hc j hj), fun j hj => (hr j hj).evo hk⟩
inductive EnvIn (rb : Nat) (m : Mem) (W : World) : PEnv → Value → Prop
 | nil : EnvIn rb m W [] (.pointer none)
 | cons {x : Int} {v : PV} {e : PEnv} {gv nx : Value} {b : Nat} (hb : At rb m W b (.cells #[.int .i64 x, gv, nx] 124 (0, 0))) (hv : RepV rb m W v gv) (he : EnvIn rb m W e nx) : EnvIn rb m W ((x, v) :: e) (.pointer (some ⟨b, 0, none⟩))
theorem EnvIn.evo {rb : Nat} {m m' : Mem} {W W' : World} (hk : Evo rb m m' W W') {e : PEnv} {g : Value} (h : EnvIn rb m W e g) : EnvIn rb m' W' e g := by
 induction h with
 | nil => exact .nil
 | cons hb hv _ ih => exact .cons (hb.evo hk) (hv.evo hk) ih
theorem EnvIn.shape {rb : Nat} {m : Mem} {W : World} {e : PEnv} {g : Value} (h : EnvIn rb m W e g) : ∃ p, g = .pointer p := by
 cases h <;> exact ⟨_, rfl⟩
structure Good (rb B : Nat) (p : FlatP) (inp : List Int) (fuel : Nat) (s : FSt) (m : Mem) (W : World) : Prop where
 Bs : B ≤ W.heap.size
 rbB : B ≤ rb
 left : s.left ≤ fuel
 fuelB : fuel ≤ 1000000
 bnd : s.out.length + s.left ≤ fuel
 run : ∃ f0 f1 f2 f3 Ai ci, W.heap[rb]? = some (.cells #[f0, f1, f2, f3, .slice Ai (inp.drop s.asked).length ci, .int .i64 fuel, .int .i64 0, .int .i64 0, m.vo, .int .i64 ((fuel : Int) - s.left)] 69 (0, 0)) ∧ FlatIn B W p #[f0, f1, f2, f3] ∧ IntsIn B W Ai (inp.drop s.asked) ∧ (inp.drop s.asked).length ≤ ci
 out : W.ownsRow B 3 1 m.vo s.out.length (s.out.map (Value.int .i64))
 falen : m.fa.length = s.made.length
 fns : ∀ i (h : i < s.made.length), ∃ b A cap, m.fa[i]? = some b ∧ At rb m W b (.cells #[.int .i64 s.made[i].1, .slice A s.made[i].2.length cap] 147 (0, 0)) ∧ s.made[i].2.length ≤ cap ∧ s.made[i].2.length ≤ 255 ∧ RowV rb m W s.made[i].2 A ∧ 0 ≤ s.made[i].1 ∧ s.made[i].1 < p.funs.length
 calen : m.ca.length = s.cells.length
 cells : ∀ i (h : i < s.cells.length), ∃ b gv, m.ca[i]? = some b ∧ W.heap[b]? = some (.cells #[gv] 157 (0, 0)) ∧ RepV rb m W s.cells[i] gv
 nodup : m.ca.Nodup
 rbca : rb ∉ m.ca
 rbo : m.vo.ownBlock ≠ some rb
 oca : ∀ b ∈ m.ca, m.vo.ownBlock ≠ some b
 caB : ∀ b ∈ m.ca, B ≤ b
section
variable {rb B : Nat} {p : FlatP} {inp : List Int} {fuel : Nat} {s : FSt} {m m' : Mem} {W W' : World}
theorem Good.mutB (h : Good rb B p inp fuel s m W) {k : Nat} (hk : m.mut rb k) : B ≤ k := by
 rcases hk with rfl | hk | hk
 · exact h.rbB
 · exact (h.out.lt k hk).1
 · exact h.caB k hk
theorem Good.mutLt (h : Good rb B p inp fuel s m W) {k : Nat} (hk : m.mut rb k) : k < W.heap.size := by
 rcases hk with rfl | hk | hk
 · obtain ⟨_, _, _, _, _, _, hr, _⟩ := h.run; exact (Array.getElem?_eq_some_iff.1 hr).1
 · exact (h.out.lt k hk).2
 · obtain ⟨i, hi, rfl⟩ := List.getElem_of_mem hk
   obtain ⟨b, gv, h1, h2, _⟩ := h.cells i (by rw [← h.calen]; exact hi)
   rw [List.getElem?_eq_getElem hi] at h1
   cases h1
   exact (Array.getElem?_eq_some_iff.1 h2).1
theorem Good.stay (h : Good rb B p inp fuel s m W) (hk : Evo rb m m' W W') : Below B W W' :=
 ⟨hk.os, hk.tape, hk.output, hk.size, fun k hlt => hk.same k (Nat.lt_of_lt_of_le hlt h.Bs) (fun hm => by have := h.mutB hm; omega)⟩
theorem Good.fnsEvo (hg : Good rb B p inp fuel s m W) (hk : Evo rb m m' W W') : ∀ i (h : i < s.made.length), ∃ b A cap, m'.fa[i]? = some b ∧ At rb m' W' b (.cells #[.int .i64 s.made[i].1, .slice A s.made[i].2.length cap] 147 (0, 0)) ∧ s.made[i].2.length ≤ cap ∧ s.made[i].2.length ≤ 255 ∧ RowV rb m' W' s.made[i].2 A ∧ 0 ≤ s.made[i].1 ∧ s.made[i].1 < p.funs.length := fun i hi => by
 obtain ⟨b, A, cap, h1, h2, h3, h4, h5, h6, h7⟩ := hg.fns i hi
 exact ⟨b, A, cap, prefix_get hk.fa h1, h2.evo hk, h3, h4, h5.evo hk, h6, h7⟩
theorem Good.below (h : Good rb B p inp fuel s m W) (hb : Below W.heap.size W W') : Good rb B p inp fuel s m W' := by
 have hk : Evo rb m m W W' := Evo.below hb
 have hst := h.stay hk
 obtain ⟨f0, f1, f2, f3, Ai, ci, hr, hf, hi, hci⟩ := h.run
 refine ⟨Nat.le_trans h.Bs hb.size, h.rbB, h.left, h.fuelB, h.bnd, ⟨f0, f1, f2, f3, Ai, ci, (hb.block rb (Array.getElem?_eq_some_iff.1 hr).1).trans hr, hf.kept hst, hi.below hst, hci⟩, ?_, h.falen, h.fnsEvo hk, h.calen, ?_, h.nodup, h.rbca, h.rbo, h.oca, h.caB⟩
 · exact h.out.kept ⟨hb.os, hb.tape, hb.output, hb.size, fun i hi _ => hb.block i hi⟩ (row := none) (by cases m.vo.ownBlock <;> simp)
 · intro i hi'
   obtain ⟨b, gv, h1, h2, h3⟩ := h.cells i hi'
   exact ⟨b, gv, h1, (hb.block b (Array.getElem?_eq_some_iff.1 h2).1).trans h2, h3.evo hk⟩
end
theorem at_cell0 {rb : Nat} {m : Mem} {W : World} {b : Nat} {cs : Array Value} {t : TypeId} {fr : Nat × Nat} (h : At rb m W b (.cells cs t fr)) {i : Nat} {v : Value} (hv : cs[i]? = some v) : W.cell? ⟨b, i, none⟩ = some v := by
 simp [World.cell?, h.1, hv]
theorem at_new {rb : Nat} {m : Mem} {W : World} (hm : ∀ k, m.mut rb k → k < W.heap.size) (cs : Array Value) (t : TypeId) : At rb m (W.alloc (.cells cs t)) W.heap.size (.cells cs t) :=
 ⟨World.alloc_heap_new W _, fun h => by have := hm _ h; omega⟩
theorem at_frozen {rb : Nat} {m : Mem} {W : World} {b : Nat} {cs : Array Value} {t : TypeId} (h : At rb m W b (.cells cs t (0, 0))) (o : Nat) : W.frozen? ⟨b, o, none⟩ = false := by
 simp [World.frozen?, h.1]
theorem cell_behind {W W' : World} (hb : Below W.heap.size W W') {b o : Nat} {v : Value} (h : W.cell? ⟨b, o, none⟩ = some v) : W'.cell? ⟨b, o, none⟩ = some v :=
 (hb.cell (p := ⟨b, o, none⟩) (World.block_lt_of_cell? _ _ h)).trans h
end Go.Proofs.YtnobggabjpcbfaaGreat
namespace Go.Proofs.YtnobggabjpcbfaaGreat
open Go.RowKit
theorem wrap_any (n : Int) (w : World) :
 Calls Tryz.prog 95 #[.int .i64 n] w fun e w' => e = .returned (.int .i64 (wrap31 n)) ∧ w = w' := by
 go_enter Tryz.func95, Tryz.ntmps95
 go_wp2
 go_ret
 exact ⟨ret_int (wrap31_eq n), rfl⟩
def AsksPost (g : Nat) (w : World) (e : Ending) (w' : World) : Prop :=
 ∃ b, e = .returned (.agg #[.func (.func 102) #[] #[.pointer (some ⟨b, 0, none⟩)]]) ∧ w'.cell? ⟨b, 0, none⟩ = some (.func (.func g) #[] #[]) ∧ w.heap.size ≤ b ∧ Below w.heap.size w w'
theorem asks_any (g : Nat) (w : World) : Calls Tryz.prog 101 #[.func (.func g) #[] #[]] w (AsksPost g w) := by
 go_enter Tryz.func101, Tryz.ntmps101
 go_wp2_with fail
 refine bodyPost_ret (v := .agg #[.func (.func 102) #[] #[.pointer (some ⟨w.heap.size, 0, none⟩)]]) (by simp [results, Tryz.results101, go_sem]) rfl ?_
 exact ⟨w.heap.size, rfl, by rw [World.cell?_alloc_past _ _ _ (by simp), World.cell?_alloc_at _ _ _ _ rfl]; rfl, Nat.le_refl _, ((Below.refl _ _).alloc (Nat.le_refl _) _).alloc (by simp) _⟩
def DoersPost (w : World) (e : Ending) (w' : World) : Prop :=
 ∃ b6 b7 b8 b9, e = .returned (.agg #[.func (.func 104) #[] #[], .func (.func 105) #[] #[], .func (.func 106) #[] #[], .func (.func 107) #[] #[], .func (.func 108) #[] #[],
  .func (.func 102) #[] #[.pointer (some ⟨b6, 0, none⟩)], .func (.func 102) #[] #[.pointer (some ⟨b7, 0, none⟩)], .func (.func 102) #[] #[.pointer (some ⟨b8, 0, none⟩)], .func (.func 102) #[] #[.pointer (some ⟨b9, 0, none⟩)]]) ∧
  w'.cell? ⟨b6, 0, none⟩ = some (.func (.func 109) #[] #[]) ∧ w'.cell? ⟨b7, 0, none⟩ = some (.func (.func 110) #[] #[]) ∧ w'.cell? ⟨b8, 0, none⟩ = some (.func (.func 111) #[] #[]) ∧ w'.cell? ⟨b9, 0, none⟩ = some (.func (.func 112) #[] #[]) ∧ Below w.heap.size w w'
theorem doers_any (w : World) : Calls Tryz.prog 100 #[] w (DoersPost w) := by
 go_enter Tryz.func100, Tryz.ntmps100
 go_wp2_with fail
 refine (asks_any _ _).mono ?_
 rintro e w1 ⟨b6, rfl, h6, hl6, hb1⟩
 go_wp2_with fail
 refine (asks_any _ _).mono ?_
 rintro e w2 ⟨b7, rfl, h7, hl7, hb2⟩
 go_wp2_with fail
 refine (asks_any _ _).mono ?_
 rintro e w3 ⟨b8, rfl, h8, hl8, hb3⟩
 go_wp2_with fail
 refine (asks_any _ _).mono ?_
 rintro e w4 ⟨b9, rfl, h9, hl9, hb4⟩
 have hw0 : (w.alloc (.cells #[Value.nilFunc, Value.nilFunc, Value.nilFunc, Value.nilFunc, Value.nilFunc, Value.nilFunc, Value.nilFunc, Value.nilFunc, Value.nilFunc] 168)).heap[w.heap.size]? = some (.cells #[Value.nilFunc, Value.nilFunc, Value.nilFunc, Value.nilFunc, Value.nilFunc, Value.nilFunc, Value.nilFunc, Value.nilFunc, Value.nilFunc] 168) := World.alloc_heap_new w _
 have s1 := hb1.size
 have s2 := hb2.size
 have s3 := hb3.size
 have s4 := hb4.size
 simp only [World.size_alloc] at s1 hl6
 have hw4 : w4.heap[w.heap.size]? = some (.cells #[Value.nilFunc, Value.nilFunc, Value.nilFunc, Value.nilFunc, Value.nilFunc, Value.nilFunc, Value.nilFunc, Value.nilFunc, Value.nilFunc] 168) :=
  (hb4.block _ (by omega)).trans ((hb3.block _ (by omega)).trans ((hb2.block _ (by omega)).trans ((hb1.block _ (by simp)).trans hw0)))
 have k0 : w4.cell? ⟨w.heap.size, 0, none⟩ = some .nilFunc := by simp [World.cell?, hw4]
 have k1 : w4.cell? ⟨w.heap.size, 1, none⟩ = some .nilFunc := by simp [World.cell?, hw4]
 have k2 : w4.cell? ⟨w.heap.size, 2, none⟩ = some .nilFunc := by simp [World.cell?, hw4]
 have k3 : w4.cell? ⟨w.heap.size, 3, none⟩ = some .nilFunc := by simp [World.cell?, hw4]
 have k4 : w4.cell? ⟨w.heap.size, 4, none⟩ = some .nilFunc := by simp [World.cell?, hw4]
 have k5 : w4.cell? ⟨w.heap.size, 5, none⟩ = some .nilFunc := by simp [World.cell?, hw4]
 have k6 : w4.cell? ⟨w.heap.size, 6, none⟩ = some .nilFunc := by simp [World.cell?, hw4]
 have k7 : w4.cell? ⟨w.heap.size, 7, none⟩ = some .nilFunc := by simp [World.cell?, hw4]
 have k8 : w4.cell? ⟨w.heap.size, 8, none⟩ = some .nilFunc := by simp [World.cell?, hw4]
 have fz : ∀ i, w4.frozen? ⟨w.heap.size, i, none⟩ = false := fun i => by simp [World.frozen?, hw4]
 have hB4 : Below w.heap.size w w4 := ((Below.refl _ w).alloc (Nat.le_refl _) _).trans ((hb1.mono (by simp)).trans ((hb2.mono (by omega)).trans ((hb3.mono (by omega)).trans (hb4.mono (by omega)))))
 have q6 := cell_behind hb4 (cell_behind hb3 (cell_behind hb2 h6))
 have q7 := cell_behind hb4 (cell_behind hb3 h7)
 have q8 := cell_behind hb4 h8
 have HB := Lib.hid hB4
 have H6 := Lib.hid q6
 have H7 := Lib.hid q7
 have H8 := Lib.hid q8
 have H9 := Lib.hid h9
 clear hb1 hb2 hb3 hb4 h6 h7 h8 h9 q6 q7 q8 hB4 hw0 hw4
 go_wp2_with fail
 refine bodyPost_ret (v := .agg #[.func (.func 104) #[] #[], .func (.func 105) #[] #[], .func (.func 106) #[] #[], .func (.func 107) #[] #[], .func (.func 108) #[] #[],
  .func (.func 102) #[] #[.pointer (some ⟨b6, 0, none⟩)], .func (.func 102) #[] #[.pointer (some ⟨b7, 0, none⟩)], .func (.func 102) #[] #[.pointer (some ⟨b8, 0, none⟩)], .func (.func 102) #[] #[.pointer (some ⟨b9, 0, none⟩)]])
  (by simp [results, Tryz.results100, go_sem, k0, k1, k2, k3, k4, k5, k6, k7, k8]) rfl ?_
 have hne : ∀ (V : World) (o : Nat) (u : Value) (b : Nat), w.heap.size < b → (V.setCell ⟨w.heap.size, o, none⟩ u).cell? ⟨b, 0, none⟩ = V.cell? ⟨b, 0, none⟩ := fun V o u b hb => World.cell?_of_block (w := V) (Below.heap_setCell V _ _ b (by show b ≠ w.heap.size; omega))
 refine ⟨b6, b7, b8, b9, rfl, ?_, ?_, ?_, ?_, ?_⟩
 · rw [hne _ _ _ _ (by omega), hne _ _ _ _ (by omega), hne _ _ _ _ (by omega), hne _ _ _ _ (by omega), hne _ _ _ _ (by omega), hne _ _ _ _ (by omega), hne _ _ _ _ (by omega), hne _ _ _ _ (by omega), hne _ _ _ _ (by omega)]; exact H6.out
 · rw [hne _ _ _ _ (by omega), hne _ _ _ _ (by omega), hne _ _ _ _ (by omega), hne _ _ _ _ (by omega), hne _ _ _ _ (by omega), hne _ _ _ _ (by omega), hne _ _ _ _ (by omega), hne _ _ _ _ (by omega), hne _ _ _ _ (by omega)]; exact H7.out
 · rw [hne _ _ _ _ (by omega), hne _ _ _ _ (by omega), hne _ _ _ _ (by omega), hne _ _ _ _ (by omega), hne _ _ _ _ (by omega), hne _ _ _ _ (by omega), hne _ _ _ _ (by omega), hne _ _ _ _ (by omega), hne _ _ _ _ (by omega)]; exact H8.out
 · rw [hne _ _ _ _ (by omega), hne _ _ _ _ (by omega), hne _ _ _ _ (by omega), hne _ _ _ _ (by omega), hne _ _ _ _ (by omega), hne _ _ _ _ (by omega), hne _ _ _ _ (by omega), hne _ _ _ _ (by omega), hne _ _ _ _ (by omega)]; exact H9.out
 · exact ((((((((HB.out.setCell (p := ⟨_, _, none⟩) (Nat.le_refl _) _).setCell (p := ⟨_, _, none⟩) (Nat.le_refl _) _).setCell (p := ⟨_, _, none⟩) (Nat.le_refl _) _).setCell (p := ⟨_, _, none⟩) (Nat.le_refl _) _).setCell (p := ⟨_, _, none⟩) (Nat.le_refl _) _).setCell (p := ⟨_, _, none⟩) (Nat.le_refl _) _).setCell (p := ⟨_, _, none⟩) (Nat.le_refl _) _).setCell (p := ⟨_, _, none⟩) (Nat.le_refl _) _).setCell (p := ⟨_, _, none⟩) (Nat.le_refl _) _
theorem doer_at0 (x0 x1 x2 x3 x4 x5 x6 x7 x8 : Value) (w : World) : (Instr.index 168 (.agg #[x0, x1, x2, x3, x4, x5, x6, x7, x8]) (.int .i64 0)).run Tryz.prog w = .ok (.agg #[x0]) w := by kernel_rfl
theorem doer_at1 (x0 x1 x2 x3 x4 x5 x6 x7 x8 : Value) (w : World) : (Instr.index 168 (.agg #[x0, x1, x2, x3, x4, x5, x6, x7, x8]) (.int .i64 1)).run Tryz.prog w = .ok (.agg #[x1]) w := by kernel_rfl
theorem doer_at2 (x0 x1 x2 x3 x4 x5 x6 x7 x8 : Value) (w : World) : (Instr.index 168 (.agg #[x0, x1, x2, x3, x4, x5, x6, x7, x8]) (.int .i64 2)).run Tryz.prog w = .ok (.agg #[x2]) w := by kernel_rfl
theorem doer_at3 (x0 x1 x2 x3 x4 x5 x6 x7 x8 : Value) (w : World) : (Instr.index 168 (.agg #[x0, x1, x2, x3, x4, x5, x6, x7, x8]) (.int .i64 3)).run Tryz.prog w = .ok (.agg #[x3]) w := by kernel_rfl
theorem doer_at4 (x0 x1 x2 x3 x4 x5 x6 x7 x8 : Value) (w : World) : (Instr.index 168 (.agg #[x0, x1, x2, x3, x4, x5, x6, x7, x8]) (.int .i64 4)).run Tryz.prog w = .ok (.agg #[x4]) w := by kernel_rfl
theorem doer_at5 (x0 x1 x2 x3 x4 x5 x6 x7 x8 : Value) (w : World) : (Instr.index 168 (.agg #[x0, x1, x2, x3, x4, x5, x6, x7, x8]) (.int .i64 5)).run Tryz.prog w = .ok (.agg #[x5]) w := by kernel_rfl
theorem doer_at6 (x0 x1 x2 x3 x4 x5 x6 x7 x8 : Value) (w : World) : (Instr.index 168 (.agg #[x0, x1, x2, x3, x4, x5, x6, x7, x8]) (.int .i64 6)).run Tryz.prog w = .ok (.agg #[x6]) w := by kernel_rfl
theorem doer_at7 (x0 x1 x2 x3 x4 x5 x6 x7 x8 : Value) (w : World) : (Instr.index 168 (.agg #[x0, x1, x2, x3, x4, x5, x6, x7, x8]) (.int .i64 7)).run Tryz.prog w = .ok (.agg #[x7]) w := by kernel_rfl
theorem doer_at8 (x0 x1 x2 x3 x4 x5 x6 x7 x8 : Value) (w : World) : (Instr.index 168 (.agg #[x0, x1, x2, x3, x4, x5, x6, x7, x8]) (.int .i64 8)).run Tryz.prog w = .ok (.agg #[x8]) w := by kernel_rfl
theorem doer_do (fn : Fn) (fi ca : Array Value) (w : World) : (Instr.field 167 (.agg #[.func fn fi ca]) 0).run Tryz.prog w = .ok (.func fn fi ca) w := by kernel_rfl
attribute [go_sem ↓] doer_do doer_at0 doer_at1 doer_at2 doer_at3 doer_at4 doer_at5 doer_at6 doer_at7 doer_at8
def DoPost (p a b : Int) (w : World) (e : Ending) (w' : World) : Prop := (∃ n, doP p a b = some n ∧ e = .returned (.tuple #[.int .i64 n, .int .i64 0]) ∧ Below w.heap.size w w') ∨ (doP p a b = none ∧ e = .returned (.tuple #[.int .i64 0, .int .i64 2]) ∧ Below w.heap.size w w')
theorem wrap31_wrap64 (n : Int) : wrap31 (wrap64 n) = wrap31 n := by unfold wrap31 wrap64; omega
theorem tup_int {a b c d : Int} (h1 : a = b) (h2 : c = d) : Ending.returned (.tuple #[.int .i64 a, .int .i64 c]) = .returned (.tuple #[.int .i64 b, .int .i64 d]) := by rw [h1, h2]
theorem doP_1 (a b : Int) : doP 1 a b = some (wrap31 (wrap31 a + wrap31 b)) := by simp [doP]
theorem doP_2 (a b : Int) : doP 2 a b = some (wrap31 (wrap31 a - wrap31 b)) := by simp [doP]
theorem doP_3 (a b : Int) : doP 3 a b = some (wrap31 (wrap31 a * wrap31 b)) := by simp [doP]
theorem doP_4 (a b : Int) (h : wrap31 b ≠ 0) : doP 4 a b = some (wrap31 ((wrap31 a).tdiv (wrap31 b))) := by simp [doP, h]
theorem doP_5 (a b : Int) (h : wrap31 b ≠ 0) : doP 5 a b = some (wrap31 ((wrap31 a).tmod (wrap31 b))) := by simp [doP, h]
theorem doP_6 (a b : Int) : doP 6 a b = some (wrap31 (if wrap31 a = wrap31 b then 1 else 0)) := by simp [doP]
theorem doP_7 (a b : Int) : doP 7 a b = some (wrap31 (if wrap31 a ≠ wrap31 b then 1 else 0)) := by simp [doP]
theorem doP_8 (a b : Int) : doP 8 a b = some (wrap31 (if wrap31 a < wrap31 b then 1 else 0)) := by simp [doP]
theorem doP_9 (a b : Int) : doP 9 a b = some (wrap31 (if wrap31 a ≤ wrap31 b then 1 else 0)) := by simp [doP]
theorem do_small (p a b : Int) (hp : p = 1 ∨ p = 2 ∨ p = 3) (w : World) : Calls Tryz.prog 97 #[.int .i64 p, .int .i64 a, .int .i64 b] w (DoPost p a b w) := by
 rcases hp with rfl | rfl | rfl
 all_goals
  go_enter Tryz.func97, Tryz.ntmps97
  go_wp2_with (first | (go_at_call 95; refine (wrap_any _ _).mono ?_; rintro e w' ⟨rfl, rfl⟩) | (go_at_call 100; refine (doers_any _).mono ?_; rintro e w1 ⟨b6, b7, b8, b9, rfl, h6, h7, h8, h9, hb1⟩) | (go_at_call 104; go_in) | (go_at_call 105; go_in) | (go_at_call 106; go_in))
  go_ret2
  first | exact .inl ⟨_, doP_1 a b, tup_int (by rw [wrap31_wrap64]) rfl, hb1⟩ | exact .inl ⟨_, doP_2 a b, tup_int (by rw [wrap31_wrap64]) rfl, hb1⟩ | exact .inl ⟨_, doP_3 a b, tup_int (by rw [wrap31_wrap64]) rfl, hb1⟩
theorem do_div (p a b : Int) (hp : p = 4 ∨ p = 5) (w : World) : Calls Tryz.prog 97 #[.int .i64 p, .int .i64 a, .int .i64 b] w (DoPost p a b w) := by
 by_cases hb : wrap31 b = 0
 · have hd : doP p a b = none := by simp [doP, hb, hp]
   have hb' : (wrap31 b == 0) = true := by simpa using hb
   have HD := Lib.hid hd
   clear hd
   rcases hp with rfl | rfl
   all_goals
    go_enter Tryz.func97, Tryz.ntmps97
    go_wp2_with (first | (go_at_call 95; refine (wrap_any _ _).mono ?_; rintro e w' ⟨rfl, rfl⟩) | (go_at_call 100; refine (doers_any _).mono ?_; rintro e w1 ⟨b6, b7, b8, b9, rfl, h6, h7, h8, h9, hb1⟩) )
    go_ret2
    exact .inr ⟨HD.out, rfl, Below.refl _ _⟩
 · have hb' : (wrap31 b == 0) = false := by simpa using hb
   rcases hp with rfl | rfl
   all_goals
    go_enter Tryz.func97, Tryz.ntmps97
    go_wp2_with (first | (go_at_call 95; refine (wrap_any _ _).mono ?_; rintro e w' ⟨rfl, rfl⟩) | (go_at_call 100; refine (doers_any _).mono ?_; rintro e w1 ⟨b6, b7, b8, b9, rfl, h6, h7, h8, h9, hb1⟩) | (go_at_call 107; go_in) | (go_at_call 108; go_in))
    go_ret2
    first | exact .inl ⟨_, doP_4 a b hb, tup_int (by first | rw [wrap31_wrap64] | rfl) rfl, hb1⟩ | exact .inl ⟨_, doP_5 a b hb, tup_int (by first | rw [wrap31_wrap64] | rfl) rfl, hb1⟩
theorem do_cmp (p a b : Int) (hp : p = 6 ∨ p = 7 ∨ p = 8 ∨ p = 9) (w : World) : Calls Tryz.prog 97 #[.int .i64 p, .int .i64 a, .int .i64 b] w (DoPost p a b w) := by
 rcases hp with rfl | rfl | rfl | rfl
 all_goals
  go_enter Tryz.func97, Tryz.ntmps97
  go_wp2_with (first | (go_at_call 95; refine (wrap_any _ _).mono ?_; rintro e w' ⟨rfl, rfl⟩) | (go_at_call 100; refine (doers_any _).mono ?_; rintro e w1 ⟨b6, b7, b8, b9, rfl, h6, h7, h8, h9, hb1⟩) | (go_at_call 102; go_in) | (go_at_call 103; go_in) | (go_at_call 109; go_in) | (go_at_call 110; go_in) | (go_at_call 111; go_in) | (go_at_call 112; go_in))
  all_goals
   go_ret2
   first
    | exact .inl ⟨_, doP_6 a b, tup_int (by simp_all) rfl, hb1⟩
    | exact .inl ⟨_, doP_7 a b, tup_int (by simp_all) rfl, hb1⟩
    | exact .inl ⟨_, doP_8 a b, tup_int (by first | rw [if_pos (by omega)] | rw [if_neg (by omega)]) rfl, hb1⟩
    | exact .inl ⟨_, doP_9 a b, tup_int (by first | rw [if_pos (by omega)] | rw [if_neg (by omega)]) rfl, hb1⟩
theorem do_any (p a b : Int) (h1 : 1 ≤ p) (h2 : p ≤ 9) (w : World) : Calls Tryz.prog 97 #[.int .i64 p, .int .i64 a, .int .i64 b] w (DoPost p a b w) := by
 by_cases h3 : p = 1 ∨ p = 2 ∨ p = 3
 · exact do_small p a b h3 w
 by_cases h4 : p = 4 ∨ p = 5
 · exact do_div p a b h4 w
 exact do_cmp p a b (by omega) w
end Go.Proofs.YtnobggabjpcbfaaGreat
namespace Go.Proofs.YtnobggabjpcbfaaGreat
open Go.RowKit
def stopV (k : Int) : List PanicEntry := [{ v := .iface 90 (.agg #[.int .i64 k]), recovered := false }]
def raisedV (g : Value) : List PanicEntry := [{ v := .iface 94 (.agg #[g]), recovered := false }]
/-! ### type assertions -/
theorem ta_i_i (x : Value) (w : World) : (Instr.typeAssert (.iface 115 x) 92 115 true).run Tryz.prog w = .ok (.tuple #[x, .bool true]) w := by kernel_rfl
theorem ta_b_i (x : Value) (w : World) : (Instr.typeAssert (.iface 116 x) 92 115 true).run Tryz.prog w = .ok (.tuple #[.int .i64 0, .bool false]) w := by kernel_rfl
theorem ta_f_i (x : Value) (w : World) : (Instr.typeAssert (.iface 145 x) 92 115 true).run Tryz.prog w = .ok (.tuple #[.int .i64 0, .bool false]) w := by kernel_rfl
theorem ta_c_i (x : Value) (w : World) : (Instr.typeAssert (.iface 156 x) 92 115 true).run Tryz.prog w = .ok (.tuple #[.int .i64 0, .bool false]) w := by kernel_rfl
theorem ta_i_b (x : Value) (w : World) : (Instr.typeAssert (.iface 115 x) 92 116 true).run Tryz.prog w = .ok (.tuple #[.pointer none, .bool false]) w := by kernel_rfl
theorem ta_b_b (x : Value) (w : World) : (Instr.typeAssert (.iface 116 x) 92 116 true).run Tryz.prog w = .ok (.tuple #[x, .bool true]) w := by kernel_rfl
theorem ta_f_b (x : Value) (w : World) : (Instr.typeAssert (.iface 145 x) 92 116 true).run Tryz.prog w = .ok (.tuple #[.pointer none, .bool false]) w := by kernel_rfl
theorem ta_c_b (x : Value) (w : World) : (Instr.typeAssert (.iface 156 x) 92 116 true).run Tryz.prog w = .ok (.tuple #[.pointer none, .bool false]) w := by kernel_rfl
theorem ta_i_f (x : Value) (w : World) : (Instr.typeAssert (.iface 115 x) 92 145 true).run Tryz.prog w = .ok (.tuple #[.pointer none, .bool false]) w := by kernel_rfl
theorem ta_b_f (x : Value) (w : World) : (Instr.typeAssert (.iface 116 x) 92 145 true).run Tryz.prog w = .ok (.tuple #[.pointer none, .bool false]) w := by kernel_rfl
theorem ta_f_f (x : Value) (w : World) : (Instr.typeAssert (.iface 145 x) 92 145 true).run Tryz.prog w = .ok (.tuple #[x, .bool true]) w := by kernel_rfl
theorem ta_c_f (x : Value) (w : World) : (Instr.typeAssert (.iface 156 x) 92 145 true).run Tryz.prog w = .ok (.tuple #[.pointer none, .bool false]) w := by kernel_rfl
theorem ta_i_c (x : Value) (w : World) : (Instr.typeAssert (.iface 115 x) 92 156 true).run Tryz.prog w = .ok (.tuple #[.pointer none, .bool false]) w := by kernel_rfl
theorem ta_b_c (x : Value) (w : World) : (Instr.typeAssert (.iface 116 x) 92 156 true).run Tryz.prog w = .ok (.tuple #[.pointer none, .bool false]) w := by kernel_rfl
theorem ta_f_c (x : Value) (w : World) : (Instr.typeAssert (.iface 145 x) 92 156 true).run Tryz.prog w = .ok (.tuple #[.pointer none, .bool false]) w := by kernel_rfl
theorem ta_c_c (x : Value) (w : World) : (Instr.typeAssert (.iface 156 x) 92 156 true).run Tryz.prog w = .ok (.tuple #[x, .bool true]) w := by kernel_rfl
theorem ta_s_s (x : Value) (w : World) : (Instr.typeAssert (.iface 90 x) 20 90 true).run Tryz.prog w = .ok (.tuple #[x, .bool true]) w := by kernel_rfl
theorem ta_s_r (x : Value) (w : World) : (Instr.typeAssert (.iface 90 x) 20 94 true).run Tryz.prog w = .ok (.tuple #[.agg #[.nilIface], .bool false]) w := by kernel_rfl
theorem ta_r_r (x : Value) (w : World) : (Instr.typeAssert (.iface 94 x) 20 94 true).run Tryz.prog w = .ok (.tuple #[x, .bool true]) w := by kernel_rfl
theorem ta_r_s (x : Value) (w : World) : (Instr.typeAssert (.iface 94 x) 20 90 true).run Tryz.prog w = .ok (.tuple #[.agg #[.int .i64 0], .bool false]) w := by kernel_rfl
attribute [go_sem ↓] ta_i_i ta_b_i ta_f_i ta_c_i ta_i_b ta_b_b ta_f_b ta_c_b ta_i_f ta_b_f ta_f_f ta_c_f ta_i_c ta_b_c ta_f_c ta_c_c ta_s_s ta_s_r ta_r_r ta_r_s
theorem stuck_any (w : World) : Calls Tryz.prog 60 #[] w fun e w' => e = .panicked (stopV 4) ∧ w = w' := by
 go_enter Tryz.func60, Tryz.ntmps60
 go_wp2
 exact ⟨rfl, rfl, rfl⟩
theorem key_int (n : Int) (w : World) : Calls Tryz.prog 39 #[.iface 115 (.int .i64 n)] w fun e w' => e = .returned (.int .i64 n) ∧ w = w' := by
 go_enter Tryz.func39, Tryz.ntmps39
 go_wp2_with fail
 go_ret
 exact ⟨rfl, rfl⟩
theorem key_blk (b : Nat) (n : Int) (w : World) (hc : w.cell? ⟨b, 0, none⟩ = some (.int .i64 n)) : Calls Tryz.prog 39 #[.iface 116 (.pointer (some ⟨b, 0, none⟩))] w fun e w' => e = .returned (.int .i64 n) ∧ w = w' := by
 go_enter Tryz.func39, Tryz.ntmps39
 go_wp2_with fail
 go_ret
 exact ⟨rfl, rfl⟩
theorem key_fn (a : Value) (w : World) : Calls Tryz.prog 39 #[.iface 145 a] w fun e w' => e = .panicked (stopV 4) ∧ w = w' := by
 go_enter Tryz.func39, Tryz.ntmps39
 go_wp2_with (go_at_call 60; refine (stuck_any _).mono ?_; rintro e w' ⟨rfl, rfl⟩)
 exact ⟨rfl, rfl, rfl⟩
theorem key_ref (a : Value) (w : World) : Calls Tryz.prog 39 #[.iface 156 a] w fun e w' => e = .panicked (stopV 4) ∧ w = w' := by
 go_enter Tryz.func39, Tryz.ntmps39
 go_wp2_with (go_at_call 60; refine (stuck_any _).mono ?_; rintro e w' ⟨rfl, rfl⟩)
 exact ⟨rfl, rfl, rfl⟩
def AskedPost (o : Option Int) (w : World) (e : Ending) (w' : World) : Prop := (∃ n, o = some n ∧ e = .returned (.int .i64 n) ∧ w = w') ∨ (o = none ∧ e = .panicked (stopV 4) ∧ w = w')
theorem key_any {rb : Nat} {m : Mem} {W : World} {v : PV} {g : Value} (h : RepV rb m W v g) : Calls Tryz.prog 39 #[g] W (AskedPost (keyOf v) W) := by
 cases h with
 | int n => exact (key_int n W).mono fun e w' ⟨h1, h2⟩ => .inl ⟨n, rfl, h1, h2⟩
 | @blk tag kids b g cap F hb hg hgm hl h0 h8 hc hk => exact (key_blk b tag W (at_cell0 hb rfl)).mono fun e w' ⟨h1, h2⟩ => .inl ⟨tag, rfl, h1, h2⟩
 | fn h => exact (key_fn _ W).mono fun e w' ⟨h1, h2⟩ => .inr ⟨rfl, h1, h2⟩
 | ref h => exact (key_ref _ W).mono fun e w' ⟨h1, h2⟩ => .inr ⟨rfl, h1, h2⟩
theorem number_int (n : Int) (w : World) : Calls Tryz.prog 94 #[.iface 115 (.int .i64 n)] w fun e w' => e = .returned (.int .i64 n) ∧ w = w' := by
 go_enter Tryz.func94, Tryz.ntmps94
 go_wp2_with fail
 go_ret
 exact ⟨rfl, rfl⟩
theorem number_other (T : TypeId) (hT : T = 116 ∨ T = 145 ∨ T = 156) (a : Value) (w : World) : Calls Tryz.prog 94 #[.iface T a] w fun e w' => e = .panicked (stopV 4) ∧ w = w' := by
 rcases hT with rfl | rfl | rfl
 all_goals
  go_enter Tryz.func94, Tryz.ntmps94
  go_wp2_with (go_at_call 60; refine (stuck_any _).mono ?_; rintro e w' ⟨rfl, rfl⟩)
  exact ⟨rfl, rfl, rfl⟩
theorem cnumber_any {rb : Nat} {m : Mem} {W : World} {v : PV} {g : Value} (h : RepV rb m W v g) : Calls Tryz.prog 94 #[g] W (AskedPost (numOf v) W) := by
 cases h with
 | int n => exact (number_int n W).mono fun e w' ⟨h1, h2⟩ => .inl ⟨n, rfl, h1, h2⟩
 | blk hb hg hgm hl h0 h8 hc hk => exact (number_other _ (.inl rfl) _ W).mono fun e w' ⟨h1, h2⟩ => .inr ⟨rfl, h1, h2⟩
 | fn h => exact (number_other _ (.inr (.inl rfl)) _ W).mono fun e w' ⟨h1, h2⟩ => .inr ⟨rfl, h1, h2⟩
 | ref h => exact (number_other _ (.inr (.inr rfl)) _ W).mono fun e w' ⟨h1, h2⟩ => .inr ⟨rfl, h1, h2⟩
end Go.Proofs.YtnobggabjpcbfaaGreat
namespace Go.Proofs.YtnobggabjpcbfaaGreat
open Go.RowKit
theorem lookup_cons (x y : Int) (v : PV) (e : PEnv) : lookup ((y, v) :: e) x = if y = x then some v else lookup e x := by
 unfold lookup
 by_cases h : y = x
 · simp [h]
 · have : (y == x) = false := by simpa using h
   simp [List.find?_cons, this, h]
def AtomPost (rb : Nat) (m : Mem) (W V : World) (o : Option PV) (e : Ending) (w' : World) : Prop := (∃ v T x, o = some v ∧ e = .returned (.iface T x) ∧ RepV rb m W v (.iface T x) ∧ Below V.heap.size V w') ∨ (o = none ∧ e = .panicked (stopV 4) ∧ Below V.heap.size V w')
theorem atom_int {rb : Nat} {m : Mem} {W V : World} (g : Value) (n : Int) : Calls Tryz.prog 64 #[g, .agg #[.bool false, .int .i64 n]] V (AtomPost rb m W V (some (.int n))) := by
 obtain ⟨W0, hW0⟩ : ∃ W0, V.alloc (.cells #[.bool false, .int .i64 n] 25) = W0 := ⟨_, rfl⟩
 have hb0 : Below V.heap.size V W0 := by rw [← hW0]; exact (Below.refl _ _).alloc (Nat.le_refl _) _
 have e0 : W0.cell? ⟨V.heap.size, 0, none⟩ = some (.bool false) := by rw [← hW0, World.cell?_alloc_at _ _ _ _ rfl]; rfl
 have e1 : W0.cell? ⟨V.heap.size, 1, none⟩ = some (.int .i64 n) := by rw [← hW0, World.cell?_alloc_at _ _ _ _ rfl]; rfl
 have HB := Lib.hid hb0
 clear hb0
 go_enter Tryz.func64, Tryz.ntmps64
 go_wp2_with fail
 go_ret
 exact .inl ⟨.int n, _, _, rfl, rfl, .int n, HB.out⟩
theorem atom_var {rb : Nat} {m : Mem} {W V : World} (hWV : Below W.heap.size W V) {env : PEnv} {g : Value} (h : EnvIn rb m W env g) (x : Int) : Calls Tryz.prog 64 #[g, .agg #[.bool true, .int .i64 x]] V (AtomPost rb m W V (lookup env x)) := by
 obtain ⟨W0, hW0⟩ : ∃ W0, V.alloc (.cells #[.bool true, .int .i64 x] 25) = W0 := ⟨_, rfl⟩
 have hb0 : Below V.heap.size V W0 := by rw [← hW0]; exact (Below.refl _ _).alloc (Nat.le_refl _) _
 have hs0 : V.heap.size < W0.heap.size := by rw [← hW0]; simp
 have e0 : W0.cell? ⟨V.heap.size, 0, none⟩ = some (.bool true) := by rw [← hW0, World.cell?_alloc_at _ _ _ _ rfl]; rfl
 have e1 : W0.cell? ⟨V.heap.size, 1, none⟩ = some (.int .i64 x) := by rw [← hW0, World.cell?_alloc_at _ _ _ _ rfl]; rfl
 have HB0 := Lib.hid hb0
 have HS0 := Lib.hid hs0
 have HWV := Lib.hid hWV
 have HEN := Lib.hid h
 clear hb0 hs0 h hWV
 go_enter Tryz.func64, Tryz.ntmps64
 go_wp2_with fail
 go_loopg [0] env.length (fun k p wr => Hid (Below W0.heap.size W0 wr) ∧ ∃ e' : PEnv, Hid (EnvIn rb m W e' p) ∧ Hid (e'.length = k) ∧ Hid (lookup env x = lookup e' x))
 case atStart => exact ⟨Lib.hid (Below.refl _ _), env, HEN, Lib.hid rfl, Lib.hid rfl⟩
 case round =>
  obtain ⟨HW, e', HE, HK, HL⟩ := hrel
  have q1 : wr.cell? ⟨V.heap.size, 1, none⟩ = some (.int .i64 x) := (HW.out.cell (p := ⟨V.heap.size, 1, none⟩) HS0.out).trans e1
  have hWr : Below V.heap.size V wr := HB0.out.trans (HW.out.mono (Nat.le_of_lt HS0.out))
  have HWR := Lib.hid hWr
  clear hWr
  have he := HE.out
  cases he with
  | nil =>
   clear HE
   go_wp2_with (go_at_call 60; refine (stuck_any _).mono ?_; rintro e w' ⟨rfl, rfl⟩)
   exact ⟨rfl, .inr ⟨HL.out, rfl, HWR.out⟩⟩
  | @cons y v e gv nx b hb hv he =>
   clear HE
   have hev : Evo rb m m W wr := Evo.below (HWV.out.trans (HWR.out.mono HWV.out.size))
   have c0 := at_cell0 (hb.evo hev) (i := 0) rfl
   have c1 := at_cell0 (hb.evo hev) (i := 1) rfl
   have c2 := at_cell0 (hb.evo hev) (i := 2) rfl
   obtain ⟨T, gx, rfl⟩ := hv.shape
   obtain ⟨pn, rfl⟩ := he.shape
   have HV := Lib.hid hv
   have HE := Lib.hid he
   simp only [List.getElem_toArray, List.getElem_cons_zero, List.getElem_cons_succ] at c0 c1 c2
   clear hev hb hv he
   by_cases hx : y = x
   · have hx' : (y == x) = true := by simpa using hx
     have hl2 := Lib.hid (HL.out.trans ((lookup_cons x y v e).trans (if_pos hx)))
     have HX := Lib.hid hx
     clear hx
     go_wp2_with fail
     go_quiet (fail)
     go_wp2_with fail
     go_ret
     exact .inl ⟨v, _, _, hl2.out, rfl, HV.out, below_drewN HWR.out _⟩
   · have hx' : (y == x) = false := by simpa using hx
     have hl2 := Lib.hid (HL.out.trans ((lookup_cons x y v e).trans (if_neg hx)))
     go_wp2_with fail
     go_quiet (fail)
     go_wp2_with fail
     go_roundg e.length
     case measure => have := HK.out; simp at this; omega
     case rel => exact ⟨Lib.hid (below_drewN HW.out _), e, HE, Lib.hid rfl, hl2⟩
theorem atom_any {rb : Nat} {m : Mem} {W V : World} (hWV : Below W.heap.size W V) {env : PEnv} {g : Value} (h : EnvIn rb m W env g) (a : Atm) : Calls Tryz.prog 64 #[g, .agg #[.bool a.v, .int .i64 a.n]] V (AtomPost rb m W V (atomP env a)) := by
 obtain ⟨v, n⟩ := a
 cases v
 · exact atom_int g n
 · exact atom_var hWV h n
end Go.Proofs.YtnobggabjpcbfaaGreat
