/-
  The program's evaluator: calls; what is raised and caught.
-/
import Derived.Test.YtnolhcdfknjncaaDoorE3
import Derived.Deep.RegionHeld
import Derived.Deep.RegionHeld2
set_option linter.unusedVariables false
set_option linter.unusedSimpArgs false
namespace Go.Proofs.YtnolhcdfknjncaaDoor
open Go.RowKit

/-- what is thrown: what was recovered and thrown again lies behind it -/
def Thrown (T : TypeId) (x : Value) (ch : List PanicEntry) : Prop := ∃ older : List PanicEntry, ch = { v := .iface T x, recovered := false } :: older ∧ ∀ p ∈ older, p.goexit = false
theorem thrown_one (T : TypeId) (x : Value) : Thrown T x [{ v := .iface T x, recovered := false }] := ⟨[], rfl, by simp⟩

/-- how an evaluation ends in memory -/
inductive EvPost (rb B : Nat) (inp : List Int) (fuel : Nat) (m : Mem) (W : World) : Out → Ending → World → Prop
  | val {v : PV} {s : St} {m' : Mem} {W' : World} {g : Value} (hk : Evo rb m m' W W') (hg : Good rb B inp fuel s m' W') (hv : RepV rb m' W' v g) : EvPost rb B inp fuel m W (.val v, s) (.returned g) W'
  | raised {v : PV} {s : St} {m' : Mem} {W' : World} {g : Value} {ch : List PanicEntry} (hk : Evo rb m m' W W') (hg : Good rb B inp fuel s m' W') (hv : RepV rb m' W' v g) (hkey : ∃ k, keyOf v = some k) (hth : Thrown 81 (.agg #[g]) ch) : EvPost rb B inp fuel m W (.raised v, s) (.panicked ch) W'
  | stuck {s : St} {m' : Mem} {W' : World} {ch : List PanicEntry} (hk : Evo rb m m' W W') (hg : Good rb B inp fuel s m' W') (hth : Thrown 79 (.agg #[.int .i64 4]) ch) : EvPost rb B inp fuel m W (.stuck, s) (.panicked ch) W'
  | cut {s : St} {m' : Mem} {W' : World} {ch : List PanicEntry} (hk : Evo rb m m' W W') (hg : Good rb B inp fuel s m' W') (hth : Thrown 79 (.agg #[.int .i64 3]) ch) : EvPost rb B inp fuel m W (.cut, s) (.panicked ch) W'
theorem EvPost.from_ {rb B : Nat} {inp : List Int} {fuel : Nat} {m m' : Mem} {W W' : World} (hk : Evo rb m m' W W') {o : Out} {e : Ending} {V : World} (h : EvPost rb B inp fuel m' W' o e V) : EvPost rb B inp fuel m W o e V := by
  cases h with
  | val h1 h2 h3 => exact .val (hk.trans h1) h2 h3
  | raised h1 h2 h3 h4 h5 => exact .raised (hk.trans h1) h2 h3 h4 h5
  | stuck h1 h2 h3 => exact .stuck (hk.trans h1) h2 h3
  | cut h1 h2 h3 => exact .cut (hk.trans h1) h2 h3

theorem EvPost.ends {rb B : Nat} {inp : List Int} {fuel : Nat} {m : Mem} {W : World} {o : Out} {e : Ending} {V : World} (h : EvPost rb B inp fuel m W o e V) :
    (∃ g, e = .returned g ∧ EvPost rb B inp fuel m W o (.returned g) V) ∨ (∃ ch, e = .panicked ch ∧ EvPost rb B inp fuel m W o (.panicked ch) V) := by
  cases h with
  | val h1 h2 h3 => exact .inl ⟨_, rfl, .val h1 h2 h3⟩
  | raised h1 h2 h3 h4 h5 => exact .inr ⟨_, rfl, .raised h1 h2 h3 h4 h5⟩
  | stuck h1 h2 h3 => exact .inr ⟨_, rfl, .stuck h1 h2 h3⟩
  | cut h1 h2 h3 => exact .inr ⟨_, rfl, .cut h1 h2 h3⟩

theorem EvPost.evo {rb B : Nat} {inp : List Int} {fuel : Nat} {m : Mem} {W : World} {o : Out} {e : Ending} {V : World} (h : EvPost rb B inp fuel m W o e V) : ∃ m', Evo rb m m' W V := by
  cases h with
  | val h1 h2 h3 => exact ⟨_, h1⟩
  | raised h1 h2 h3 h4 h5 => exact ⟨_, h1⟩
  | stuck h1 h2 h3 => exact ⟨_, h1⟩
  | cut h1 h2 h3 => exact ⟨_, h1⟩

/-- terms are evaluated as they should, to a depth -/
def TermOk (rb B : Nat) (inp : List Int) (fuel n : Nat) : Prop :=
  ∀ (t : Core) (e : PEnv) (s : St) (m : Mem) (W : World) (gt : Array Value) (ge : Value), CoreIn B W t gt → WT t → EnvIn rb m W e ge → Good rb B inp fuel s m W → s.left < n →
    Calls Tryd.prog 26 #[.pointer (some ⟨rb, 0, none⟩), .agg gt, ge] W (EvPost rb B inp fuel m W (ev inp n t e s))

theorem at_new {rb : Nat} {m : Mem} {W : World} (hm : ∀ k, m.apart rb k → k < W.heap.size) (cs : Array Value) (t : TypeId) : At rb m (W.alloc (.cells cs t)) W.heap.size (.cells cs t) :=
  ⟨World.alloc_heap_new W _, fun h => by have := hm _ h; omega⟩
theorem Good.mutLt {rb B : Nat} {inp : List Int} {fuel : Nat} {s : St} {m : Mem} {W : World} (h : Good rb B inp fuel s m W) {k : Nat} (hk : m.mut rb k) : k < W.heap.size := by
  rcases hk with rfl | hk | hk
  · obtain ⟨_, _, hr, _⟩ := h.run; exact (Array.getElem?_eq_some_iff.1 hr).1
  · exact (h.out.lt k hk).2
  · obtain ⟨i, hi, rfl⟩ := List.getElem_of_mem hk
    obtain ⟨b, gv, h1, h2, _⟩ := h.cells i (by rw [← h.calen]; exact hi)
    rw [List.getElem?_eq_getElem hi] at h1
    cases h1
    exact (Array.getElem?_eq_some_iff.1 h2).1
theorem Good.apartLt {rb B : Nat} {inp : List Int} {fuel : Nat} {s : St} {m : Mem} {W : World} (h : Good rb B inp fuel s m W) {k : Nat} (hk : m.apart rb k) : k < W.heap.size :=
  hk.elim h.mutLt fun hp => (h.priv k hp).2.1

theorem RepV.shape {rb : Nat} {m : Mem} {W : World} {v : PV} {g : Value} (h : RepV rb m W v g) : ∃ T p, g = .iface T p := by
  cases h <;> exact ⟨_, _, rfl⟩
theorem EnvIn.shape {rb : Nat} {m : Mem} {W : World} {e : PEnv} {g : Value} (h : EnvIn rb m W e g) : ∃ p, g = .pointer p := by
  cases h <;> exact ⟨_, rfl⟩
theorem CoreIn.shape {B : Nat} {w : World} {t : Core} {v : Array Value} (h : CoreIn B w t v) : ∃ k n A na ca A' nb cb, v = #[.int .i64 k, .int .i64 n, .slice A na ca, .slice A' nb cb] := by
  cases h; exact ⟨_, _, _, _, _, _, _, _, rfl⟩

end Go.Proofs.YtnolhcdfknjncaaDoor
