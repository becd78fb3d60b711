/-
  11 texts of this seat in one: E0 EM E1 E2 E3 E4 E5 E6 E7 E8 E9.
-/
import Derived.Test.YtnolhcdfknjncaaDoorQA
import Derived.Deep.LoopGhost
import Derived.Deep.RegionHeld
import Derived.Deep.RegionHeld2
import Derived.Recover
import Derived.Maps.AppendAt
import Derived.Deep.RegionLaw
/-
  The evaluator of core terms in plain Lean: what the program's ceval and the document's answer both compute.
-/
set_option linter.unusedVariables false
set_option linter.unusedSimpArgs false
namespace Go.Proofs.YtnolhcdfknjncaaDoor

/-- a value -/
inductive PV where
  | int (n : Int)
  | blk (tag : Int) (kids : List PV)
  | fn (i : Nat)
  | ref (i : Nat)
instance : Inhabited PV := ⟨.int 0⟩
abbrev PEnv := List (Int × PV)
/-- a function that was made -/
structure PFn where
  param : Int
  body : Core
  env : PEnv
instance : Inhabited PFn := ⟨⟨0, default, []⟩⟩
/-- a run's state: steps that are left, functions, cells, what was printed, how many ints were asked for -/
structure St where
  left : Nat
  fns : List PFn
  cells : List PV
  out : List Int
  asked : Nat
inductive Res where
  | val (v : PV)
  | raised (v : PV)
  | stuck
  | cut
abbrev Out := Res × St

def Out.andThen (o : Out) (f : PV → St → Out) : Out :=
  match o with
  | (.val v, s) => f v s
  | (.raised v, s) => (.raised v, s)
  | (.stuck, s) => (.stuck, s)
  | (.cut, s) => (.cut, s)

/-- a value's key -/
def keyOf : PV → Option Int
  | .int n => some n
  | .blk t _ => some t
  | _ => none
def numOf : PV → Option Int
  | .int n => some n
  | _ => none

def lookup (e : PEnv) (x : Int) : Option PV := (e.find? (fun p => p.1 == x)).map (·.2)

/-- the place of a key among some, from 1 on; 0: none -/
def whichAt (keys : List Int) (key : Int) : Nat := match keys.findIdx? (· == key) with | some i => i + 1 | none => 0

/-- what is done with two ints -/
def doP (p a b : Int) : Option Int :=
  let a := wrap31 a
  let b := wrap31 b
  if (p = 4 ∨ p = 5) ∧ b = 0 then none
  else some (wrap31 (if p = 1 then a + b else if p = 2 then a - b else if p = 3 then a * b else if p = 4 then a.tdiv b else if p = 5 then a.tmod b
    else if p = 6 then (if a = b then 1 else 0) else if p = 7 then (if a ≠ b then 1 else 0) else if p = 8 then (if a < b then 1 else 0) else (if a ≤ b then 1 else 0)))

section
variable (inp : List Int) (rec : Core → PEnv → St → Out)

def callP (f a : PV) (s : St) : Out :=
  match f with
  | .fn i => rec (s.fns[i]?.getD default).body (((s.fns[i]?.getD default).param, a) :: (s.fns[i]?.getD default).env) s
  | _ => (.stuck, s)

/-- the values of terms, from the left -/
def evs (e : PEnv) : List Core → List PV → St → (Res ⊕ List PV) × St
  | [], acc, s => (.inr acc, s)
  | c :: cs, acc, s =>
    match rec c e s with
    | (.val v, s') => evs e cs (acc ++ [v]) s'
    | (r, s') => (.inl r, s')

/-- what is known behind functions that know one another -/
def fixEnv : List Int → Nat → PEnv → PEnv
  | x :: _ :: ks, i, e => fixEnv ks (i + 1) ((x, .fn i) :: e)
  | _, _, e => e
def fixFns (env : PEnv) : List Int → List Core → List PFn
  | _ :: p :: ks, c :: cs => ⟨p, c, env⟩ :: fixFns env ks cs
  | _, _ => []

def readP (s : St) : Out :=
  if s.asked < inp.length then (.val (.int (wrap31 (nth inp s.asked))), { s with asked := s.asked + 1 })
  else (.raised (.int 1), { s with asked := s.asked + 1 })

/-- a primitive -/
def primP (p : Int) (l : List PV) (s : St) : Out :=
  let a := l[0]?.getD default
  let b := l[1]?.getD default
  if p = 10 then (.val (.ref s.cells.length), { s with cells := s.cells ++ [a] })
  else if p = 11 then (match a with | .ref i => (.val (s.cells[i]?.getD default), s) | _ => (.stuck, s))
  else if p = 12 then (match a with | .ref i => (.val (.int 0), { s with cells := s.cells.set i b }) | _ => (.stuck, s))
  else if p = 13 then (match a with | .int n => (.val (.int 0), { s with out := s.out ++ [n] }) | _ => (.stuck, s))
  else if p = 14 then readP inp s
  else if p = 15 then (match keyOf a with | some _ => (.raised a, s) | none => (.stuck, s))
  else if p = 16 then (match callP rec a (.int 0) s with | (.raised v, s') => callP rec b v s' | o => o)
  else match a, b with
    | .int x, .int y => (match doP p x y with | some n => (.val (.int n), s) | none => (.raised (.int 0), s))
    | _, _ => (.stuck, s)

/-- a term, a step having been taken -/
def bodyP (t : Core) (e : PEnv) (s : St) : Out :=
  let kid := fun (i : Nat) => t.cs[i]?.getD default
  if t.k = 1 then (match lookup e t.n with | some v => (.val v, s) | none => (.stuck, s))
  else if t.k = 2 then (.val (.int t.n), s)
  else if t.k = 3 then (.val (.fn s.fns.length), { s with fns := s.fns ++ [⟨t.n, kid 0, e⟩] })
  else if t.k = 4 then Out.andThen (rec (kid 0) e s) fun f s => Out.andThen (rec (kid 1) e s) fun a s => callP rec f a s
  else if t.k = 5 then Out.andThen (rec (kid 0) e s) fun v s => rec (kid 1) ((t.n, v) :: e) s
  else if t.k = 6 then
    let e' := fixEnv t.ks s.fns.length e
    rec (kid (t.cs.length - 1)) e' { s with fns := s.fns ++ fixFns e' t.ks t.cs }
  else if t.k = 8 then Out.andThen (rec (kid 0) e s) fun v s =>
    (match v with | .blk _ l => if t.n < l.length then (.val (l[t.n.toNat]?.getD default), s) else (.stuck, s) | _ => (.stuck, s))
  else if t.k = 9 then Out.andThen (rec (kid 0) e s) fun v s =>
    (match keyOf v with | some key => rec (kid (1 + whichAt t.ks key)) e s | none => (.stuck, s))
  else match evs rec e t.cs [] s with
    | (.inl r, s') => (r, s')
    | (.inr l, s') => if t.k = 7 then (.val (.blk t.n l), s') else primP inp rec t.n l s'
end

/-- a term: n bounds how deep the evaluation goes -/
def ev (inp : List Int) : Nat → Core → PEnv → St → Out
  | 0, _, _, s => (.cut, s)
  | n + 1, t, e, s => if s.left = 0 then (.cut, s) else bodyP inp (ev inp n) t e { s with left := s.left - 1 }

/-- how a run ends: kind, N, what was printed, steps -/
structure PEnd where
  kind : Int
  n : Int
  out : List Int
  steps : Nat
def endOf (fuel : Nat) : Out → PEnd
  | (.val _, s) => ⟨1, 0, s.out, fuel - s.left⟩
  | (.raised v, s) => if 0 ≤ (keyOf v).getD 0 then ⟨2, (keyOf v).getD 0, s.out, fuel - s.left⟩ else ⟨4, 0, s.out, fuel - s.left⟩
  | (.stuck, s) => ⟨4, 0, s.out, fuel - s.left⟩
  | (.cut, s) => ⟨3, 0, s.out, fuel - s.left⟩
def initSt (fuel : Nat) : St := ⟨fuel, [], [], [], 0⟩
/-- fuel as a run takes it -/
def fuelOf (f : Int) : Nat := (min (max f 0) 1000000).toNat
def runOut (t : Core) (inp : List Int) (f : Int) : Out := ev (inp.take 4096) (fuelOf f + 1) t [] (initSt (fuelOf f))
end Go.Proofs.YtnolhcdfknjncaaDoor

/-
  The plain evaluator: steps that are left, and what is printed.
-/
set_option linter.unusedVariables false
set_option linter.unusedSimpArgs false
namespace Go.Proofs.YtnolhcdfknjncaaDoor

structure Le (s s' : St) (k : Nat := 0) : Prop where
  left : s'.left ≤ s.left
  out : s'.out.length + s'.left ≤ s.out.length + s.left + k
theorem Le.refl (s : St) (k : Nat) : Le s s k := ⟨Nat.le_refl _, by omega⟩
theorem Le.trans {a b c : St} {k l : Nat} (h : Le a b k) (h' : Le b c l) : Le a c (k + l) := ⟨Nat.le_trans h'.left h.left, by have := h.out; have := h'.out; omega⟩
theorem Le.mono {a b : St} {k l : Nat} (h : Le a b k) (hkl : k ≤ l) : Le a b l := ⟨h.left, by have := h.out; omega⟩
section
variable {inp : List Int} {rec : Core → PEnv → St → Out} (hrec : ∀ t e s, Le s (rec t e s).2)
include hrec
theorem callP_le (f a : PV) (s : St) : Le s (callP rec f a s).2 := by
  unfold callP
  cases f <;> first | exact Le.refl _ _ | exact hrec _ _ _
theorem evs_le (e : PEnv) : ∀ (cs : List Core) (acc : List PV) (s : St), Le s (evs rec e cs acc s).2
  | [], acc, s => Le.refl _ _
  | c :: cs, acc, s => by
    have h := hrec c e s
    unfold evs
    generalize rec c e s = o at h
    obtain ⟨r, s'⟩ := o
    cases r
    · exact h.trans (evs_le e cs _ s')
    all_goals exact h
omit hrec in
theorem andThen_le {s : St} {o : Out} {f : PV → St → Out} {k : Nat} (h : Le s o.2) (hf : ∀ v s', Le s' (f v s').2 k) : Le s (Out.andThen o f).2 k := by
  obtain ⟨r, s'⟩ := o
  cases r
  · exact (h.trans (hf _ _)).mono (by omega)
  all_goals exact h.mono (by omega)
theorem primP_le (p : Int) (l : List PV) (s : St) : Le s (primP inp rec p l s).2 1 := by
  unfold primP
  simp only []
  split
  · exact ⟨Nat.le_refl _, Nat.le_add_right _ _⟩
  split
  · split <;> exact Le.refl _ _
  split
  · split
    · exact ⟨Nat.le_refl _, Nat.le_add_right _ _⟩
    · exact Le.refl _ _
  split
  · split
    · exact ⟨Nat.le_refl _, by simp; omega⟩
    · exact Le.refl _ _
  split
  · unfold readP
    split <;> exact ⟨Nat.le_refl _, Nat.le_add_right _ _⟩
  split
  · split <;> exact Le.refl _ _
  split
  · have h := callP_le hrec (l[0]?.getD default) (.int 0) s
    split
    · rename_i v s' heq
      rw [heq] at h
      exact (h.trans (callP_le hrec _ _ _)).mono (by omega)
    · exact h.mono (by omega)
  split
  · split <;> exact Le.refl _ _
  · exact Le.refl _ _
theorem bodyP_le (t : Core) (e : PEnv) (s : St) : Le s (bodyP inp rec t e s).2 1 := by
  unfold bodyP
  simp only []
  split
  · split <;> exact Le.refl _ _
  split
  · exact Le.refl _ _
  split
  · exact ⟨Nat.le_refl _, Nat.le_add_right _ _⟩
  split
  · exact (andThen_le (hrec _ _ _) fun f s => andThen_le (hrec _ _ _) fun a s => callP_le hrec f a s).mono (by omega)
  split
  · exact (andThen_le (hrec _ _ _) fun f s => hrec _ _ _).mono (by omega)
  split
  · have h := hrec (t.cs[t.cs.length - 1]?.getD default) (fixEnv t.ks s.fns.length e) { s with fns := s.fns ++ fixFns (fixEnv t.ks s.fns.length e) t.ks t.cs }
    exact ⟨h.left, by have := h.out; simp at this ⊢; omega⟩
  split
  · refine andThen_le (hrec _ _ _) fun v s => ?_
    split
    · split <;> exact Le.refl _ _
    · exact Le.refl _ _
  split
  · refine andThen_le (hrec _ _ _) fun v s => ?_
    split
    · exact (hrec _ _ _).mono (by omega)
    · exact Le.refl _ _
  · have h := evs_le hrec e t.cs [] s
    split
    · rename_i r s' heq
      rw [heq] at h
      exact h.mono (by omega)
    · rename_i l s' heq
      rw [heq] at h
      split
      · exact h.mono (by omega)
      · exact (h.trans (primP_le hrec _ _ _)).mono (by omega)
end
theorem ev_le (inp : List Int) : ∀ (n : Nat) (t : Core) (e : PEnv) (s : St), Le s (ev inp n t e s).2
  | 0, _, _, s => Le.refl _ _
  | n + 1, t, e, s => by
    unfold ev
    split
    · exact Le.refl _ _
    · have h := bodyP_le (inp := inp) (ev_le inp n) t e { s with left := s.left - 1 }
      exact ⟨Nat.le_trans h.left (by simp), by have := h.out; simp at this ⊢; omega⟩
end Go.Proofs.YtnolhcdfknjncaaDoor

/-
  The program's evaluator in memory: what stands for values, environments, a run; what a step of the run may turn.
-/
set_option linter.unusedVariables false
set_option linter.unusedSimpArgs false
namespace Go.Proofs.YtnolhcdfknjncaaDoor
open Go.RowKit

/-! ### terms that may be -/
def nodeOk (t : Core) : Prop := 1 ≤ t.k ∧ t.k ≤ 10 ∧ numE t.k t.n = 0 ∧ cntB t.k t.n t.ks.length t.cs.length = true ∧ keysB t.k t.ks = true
inductive WT : Core → Prop
  | mk {t : Core} : nodeOk t → (∀ c ∈ t.cs, WT c) → WT t
theorem WT.node {t : Core} (h : WT t) : nodeOk t := by cases h; assumption
theorem WT.kid {t : Core} (h : WT t) {c : Core} (hc : c ∈ t.cs) : WT c := by cases h with | mk _ h => exact h c hc

theorem firstE_zero {l : List (Int × Core)} {a : Int} (h : firstE a l = 0) : ∀ x ∈ l, nodeOk x.2 := by
  induction l generalizing a with
  | nil => intro x hx; simp at hx
  | cons y l ih =>
    simp only [firstE] at h
    by_cases hy : nodeE a y.1 y.2.k y.2.n y.2.ks y.2.cs.length = 0
    · rw [if_neg (by simp [hy])] at h
      intro x hx
      rcases List.mem_cons.1 hx with rfl | hx
      · unfold nodeE at hy
        split at hy
        · simp at hy
        split at hy
        · simp at hy
        split at hy
        · simp at hy
        rename_i h3
        split at hy
        · rename_i h4; exact absurd hy h4
        rename_i h4
        split at hy
        · simp at hy
        rename_i h5
        split at hy
        · simp at hy
        rename_i h6
        exact ⟨by omega, by omega, by simpa using h4, by simpa using h5, by simpa using h6⟩
      · exact ih h x hx
    · rw [if_pos hy] at h; exact absurd h hy
mutual
theorem wt_of_nodes (d : Int) : ∀ (t : Core), (∀ x ∈ nodesL d t, nodeOk x.2) → WT t
  | .mk k n ks cs, h => .mk (h (d, .mk k n ks cs) (by simp [nodesL])) (wts_of_nodes (d + 1) cs (fun x hx => h x (by simp [nodesL]; exact .inr hx)))
theorem wts_of_nodes (d : Int) : ∀ (cs : List Core), (∀ x ∈ nodesLs d cs, nodeOk x.2) → ∀ c ∈ cs, WT c
  | [], _ => fun c hc => by simp at hc
  | c :: cs, h =>
    have h1 : WT c := wt_of_nodes d c (fun x hx => h x (by simp [nodesLs]; exact .inl hx))
    have h2 : ∀ c ∈ cs, WT c := wts_of_nodes d cs (fun x hx => h x (by simp [nodesLs]; exact .inr hx))
    fun c' hc' => (List.mem_cons.1 hc').elim (fun e => e ▸ h1) (h2 c')
end
theorem wt_of_right {t : Core} (h : rightE t = 0) : WT t := wt_of_nodes 1 t (firstE_zero h)

/-! ### what a run may turn -/
/-- the blocks of functions, of cells; the value of what was printed -/
structure Mem where
  fa : List Nat
  ca : List Nat
  vo : Value
  priv : List Nat
def Mem.mut (rb : Nat) (m : Mem) (k : Nat) : Prop := k = rb ∨ m.vo.ownBlock = some k ∨ k ∈ m.ca
/-- what nothing that stands for a value may lie in: what a run may turn, and the rows that frames are filling -/
def Mem.apart (rb : Nat) (m : Mem) (k : Nat) : Prop := m.mut rb k ∨ k ∈ m.priv
structure Evo (rb : Nat) (m m' : Mem) (W W' : World) : Prop where
  os : W'.os = W.os
  tape : W'.tape = W.tape
  output : W'.output = W.output
  size : W.heap.size ≤ W'.heap.size
  same : ∀ k, k < W.heap.size → ¬ m.mut rb k → W'.heap[k]? = W.heap[k]?
  fresh : ∀ k, m'.mut rb k → m.mut rb k ∨ W.heap.size ≤ k
  fa : m.fa <+: m'.fa
  ca : m.ca <+: m'.ca
  priv : m'.priv = m.priv
theorem Evo.refl (rb : Nat) (m : Mem) (W : World) : Evo rb m m W W := ⟨rfl, rfl, rfl, Nat.le_refl _, fun _ _ _ => rfl, fun _ h => .inl h, List.prefix_refl _, List.prefix_refl _, rfl⟩
theorem Evo.trans {rb : Nat} {a b c : Mem} {A B C : World} (h : Evo rb a b A B) (k : Evo rb b c B C) : Evo rb a c A C :=
  ⟨k.os.trans h.os, k.tape.trans h.tape, k.output.trans h.output, Nat.le_trans h.size k.size,
   fun i hi hm => (k.same i (Nat.lt_of_lt_of_le hi h.size) (fun hb => by rcases h.fresh i hb with hb | hb; exact hm hb; omega)).trans (h.same i hi hm),
   fun i hi => by
     rcases k.fresh i hi with hb | hb
     · exact h.fresh i hb
     · exact .inr (Nat.le_trans h.size hb),
   h.fa.trans k.fa, h.ca.trans k.ca, k.priv.trans h.priv⟩
theorem Evo.below {rb : Nat} {m : Mem} {W W' : World} (h : Below W.heap.size W W') : Evo rb m m W W' :=
  ⟨h.os, h.tape, h.output, h.size, fun k hk _ => h.block k hk, fun _ h => .inl h, List.prefix_refl _, List.prefix_refl _, rfl⟩
theorem Evo.alloc (rb : Nat) (m : Mem) (W : World) (o : Obj) : Evo rb m m W (W.alloc o) := Evo.below ((Below.refl _ _).alloc (Nat.le_refl _) _)
theorem Evo.setCell {rb : Nat} {m : Mem} (W : World) {b : Nat} (o : Nat) (v : Value) (hb : m.mut rb b) : Evo rb m m W (W.setCell ⟨b, o, none⟩ v) :=
  ⟨rfl, rfl, rfl, by simp [World.setCell], fun k hk hm => Below.heap_setCell W _ _ k (fun e => hm (by subst e; exact hb)), fun _ h => .inl h, List.prefix_refl _, List.prefix_refl _, rfl⟩
theorem Evo.drew {rb : Nat} {m m' : Mem} {W W' : World} (h : Evo rb m m' W W') : Evo rb m m' W W'.drew := ⟨h.os, h.tape, h.output, h.size, h.same, h.fresh, h.fa, h.ca, h.priv⟩
/-- the books may be kept anew: functions and cells more, at new blocks -/
theorem Evo.more {rb : Nat} {m m' m'' : Mem} {W W' : World} (h : Evo rb m m' W W') (hfa : m'.fa <+: m''.fa) (hca : m'.ca <+: m''.ca) (hf : ∀ k, m''.mut rb k → m.mut rb k ∨ W.heap.size ≤ k) (hp : m''.priv = m'.priv := by rfl) : Evo rb m m'' W W' :=
  ⟨h.os, h.tape, h.output, h.size, h.same, hf, h.fa.trans hfa, h.ca.trans hca, hp.trans h.priv⟩

/-- a block that lies and that nothing turns any more -/
def At (rb : Nat) (m : Mem) (W : World) (b : Nat) (o : Obj) : Prop := W.heap[b]? = some o ∧ ¬ m.apart rb b
/-- what is apart stays so -/
theorem Evo.apart {rb : Nat} {m m' : Mem} {W W' : World} (hk : Evo rb m m' W W') {k : Nat} (h : k < W.heap.size) (hn : ¬ m.apart rb k) : ¬ m'.apart rb k := fun hb => by
  rcases hb with hb | hb
  · rcases hk.fresh k hb with hb | hb
    · exact hn (.inl hb)
    · omega
  · exact hn (.inr (hk.priv ▸ hb))
theorem At.evo {rb : Nat} {m m' : Mem} {W W' : World} {b : Nat} {o : Obj} (h : At rb m W b o) (hk : Evo rb m m' W W') : At rb m' W' b o :=
  have hlt := (Array.getElem?_eq_some_iff.1 h.1).1
  ⟨(hk.same b hlt (fun hm => h.2 (.inl hm))).trans h.1, hk.apart hlt h.2⟩

/-- what stands for a value -/
inductive RepV (rb : Nat) (m : Mem) (W : World) : PV → Value → Prop
  | int (n : Int) : RepV rb m W (.int n) (.iface 87 (.int .i64 n))
  | blk {tag : Int} {kids : List PV} {b g cap : Nat} {F : Nat → Value} (hb : At rb m W b (.cells #[.int .i64 tag, .slice (some ⟨g, 0, none⟩) kids.length cap] 99 (0, 0)))
      (hg : g < W.heap.size) (hgm : ¬ m.apart rb g) (hl : kids.length ≤ cap) (h8 : kids.length ≤ 8) (hc : ∀ j, j < kids.length → W.cell? ⟨g, j, none⟩ = some (F j)) (hk : ∀ j (h : j < kids.length), RepV rb m W kids[j] (F j)) :
      RepV rb m W (.blk tag kids) (.iface 95 (.pointer (some ⟨b, 0, none⟩)))
  | fn {i b : Nat} (h : m.fa[i]? = some b) : RepV rb m W (.fn i) (.iface 88 (.pointer (some ⟨b, 0, none⟩)))
  | ref {i b : Nat} (h : m.ca[i]? = some b) : RepV rb m W (.ref i) (.iface 126 (.pointer (some ⟨b, 0, none⟩)))
theorem prefix_get {α : Type} {a b : List α} (h : a <+: b) {i : Nat} {x : α} (hx : a[i]? = some x) : b[i]? = some x := by
  obtain ⟨r, rfl⟩ := h
  rw [List.getElem?_append_left (List.getElem?_eq_some_iff.1 hx).1]; exact hx
theorem cell_of_heap {W W' : World} {g : Nat} (h : W'.heap[g]? = W.heap[g]?) (o : Nat) : W'.cell? ⟨g, o, none⟩ = W.cell? ⟨g, o, none⟩ := World.cell?_of_block (w := W) h
theorem RepV.evo {rb : Nat} {m m' : Mem} {W W' : World} (hk : Evo rb m m' W W') {v : PV} {g : Value} (h : RepV rb m W v g) : RepV rb m' W' v g := by
  induction h with
  | int n => exact .int n
  | blk hb hg hgm hl h8 hc _ ih =>
    exact .blk (hb.evo hk) (Nat.lt_of_lt_of_le hg hk.size) (hk.apart hg hgm) hl h8 (fun j hj => (cell_of_heap (hk.same _ hg (fun hm => hgm (.inl hm))) j).trans (hc j hj)) ih
  | fn h => exact .fn (prefix_get hk.fa h)
  | ref h => exact .ref (prefix_get hk.ca h)
/-- what stands for what is known -/
inductive EnvIn (rb : Nat) (m : Mem) (W : World) : PEnv → Value → Prop
  | nil : EnvIn rb m W [] (.pointer none)
  | cons {x : Int} {v : PV} {e : PEnv} {gv nx : Value} {b : Nat} (hb : At rb m W b (.cells #[.int .i64 x, gv, nx] 93 (0, 0))) (hv : RepV rb m W v gv) (he : EnvIn rb m W e nx) : EnvIn rb m W ((x, v) :: e) (.pointer (some ⟨b, 0, none⟩))
theorem EnvIn.evo {rb : Nat} {m m' : Mem} {W W' : World} (hk : Evo rb m m' W W') {e : PEnv} {g : Value} (h : EnvIn rb m W e g) : EnvIn rb m' W' e g := by
  induction h with
  | nil => exact .nil
  | cons hb hv _ ih => exact .cons (hb.evo hk) (hv.evo hk) ih

/-- a run in memory -/
structure Good (rb B : Nat) (inp : List Int) (fuel : Nat) (s : St) (m : Mem) (W : World) : Prop where
  Bs : B ≤ W.heap.size
  rbB : B ≤ rb
  left : s.left ≤ fuel
  fuelB : fuel ≤ 1000000
  bnd : s.out.length + s.left ≤ fuel
  run : ∃ Ai ci, W.heap[rb]? = some (.cells #[.slice Ai (inp.drop s.asked).length ci, .int .i64 fuel, .int .i64 0, .int .i64 0, m.vo, .int .i64 ((fuel : Int) - s.left)] 51 (0, 0)) ∧ IntsIn B W Ai (inp.drop s.asked) ∧ (inp.drop s.asked).length ≤ ci
  out : W.ownsRow B 3 1 m.vo s.out.length (s.out.map (Value.int .i64))
  falen : m.fa.length = s.fns.length
  fns : ∀ i (h : i < s.fns.length), ∃ b c0 c1 c2 c3 kp, m.fa[i]? = some b ∧ At rb m W b (.cells #[.int .i64 s.fns[i].param, c0, c1, c2, c3, kp] 90 (0, 0)) ∧ CoreIn B W s.fns[i].body #[c0, c1, c2, c3] ∧ WT s.fns[i].body ∧ EnvIn rb m W s.fns[i].env kp
  calen : m.ca.length = s.cells.length
  cells : ∀ i (h : i < s.cells.length), ∃ b gv, m.ca[i]? = some b ∧ W.heap[b]? = some (.cells #[gv] 127 (0, 0)) ∧ RepV rb m W s.cells[i] gv
  nodup : m.ca.Nodup
  rbca : rb ∉ m.ca
  rbo : m.vo.ownBlock ≠ some rb
  oca : ∀ b ∈ m.ca, m.vo.ownBlock ≠ some b
  caB : ∀ b ∈ m.ca, B ≤ b
  priv : ∀ k ∈ m.priv, B ≤ k ∧ k < W.heap.size ∧ ¬ m.mut rb k
theorem Good.mutB {rb B : Nat} {inp : List Int} {fuel : Nat} {s : St} {m : Mem} {W : World} (h : Good rb B inp fuel s m W) {k : Nat} (hk : m.mut rb k) : B ≤ k := by
  rcases hk with rfl | hk | hk
  · exact h.rbB
  · exact (h.out.lt k hk).1
  · exact h.caB k hk
theorem Good.privEvo {rb B : Nat} {inp : List Int} {fuel : Nat} {s : St} {m m' : Mem} {W W' : World} (h : Good rb B inp fuel s m W) (hk : Evo rb m m' W W') : ∀ k ∈ m'.priv, B ≤ k ∧ k < W'.heap.size ∧ ¬ m'.mut rb k := fun k hp => by
  obtain ⟨h1, h2, h3⟩ := h.priv k (hk.priv ▸ hp)
  exact ⟨h1, Nat.lt_of_lt_of_le h2 hk.size, fun hm => by rcases hk.fresh k hm with hm | hm; exact h3 hm; omega⟩
theorem Good.stay {rb B : Nat} {inp : List Int} {fuel : Nat} {s : St} {m m' : Mem} {W W' : World} (h : Good rb B inp fuel s m W) (hk : Evo rb m m' W W') : Stay B W W' := fun b o v hb hc =>
  (cell_of_heap (hk.same b (by have := h.Bs; omega) (fun hm => by have := h.mutB hm; omega)) o).trans hc
/-- what lies beside a run may grow -/
theorem Good.below {rb B : Nat} {inp : List Int} {fuel : Nat} {s : St} {m : Mem} {W W' : World} (h : Good rb B inp fuel s m W) (hb : Below W.heap.size W W') : Good rb B inp fuel s m W' := by
  have hk : Evo rb m m W W' := Evo.below hb
  have hst := h.stay hk
  obtain ⟨Ai, ci, hr, hi, hci⟩ := h.run
  refine ⟨Nat.le_trans h.Bs hb.size, h.rbB, h.left, h.fuelB, h.bnd, ⟨Ai, ci, (hb.block rb (Array.getElem?_eq_some_iff.1 hr).1).trans hr, hi.stay hst, hci⟩, ?_, h.falen, ?_, h.calen, ?_, h.nodup, h.rbca, h.rbo, h.oca, h.caB, h.privEvo hk⟩
  · exact h.out.kept ⟨hb.os, hb.tape, hb.output, hb.size, fun i hi _ => hb.block i hi⟩ (row := none) (by cases m.vo.ownBlock <;> simp)
  · intro i hi'
    obtain ⟨b, c0, c1, c2, c3, kp, h1, h2, h3, h4, h5⟩ := h.fns i hi'
    exact ⟨b, c0, c1, c2, c3, kp, h1, h2.evo hk, h3.stay hst, h4, h5.evo hk⟩
  · intro i hi'
    obtain ⟨b, gv, h1, h2, h3⟩ := h.cells i hi'
    exact ⟨b, gv, h1, (hb.block b (Array.getElem?_eq_some_iff.1 h2).1).trans h2, h3.evo hk⟩
end Go.Proofs.YtnolhcdfknjncaaDoor

/-
  The small functions of the program's evaluator: stuck, key, number, find, num.Do.
-/
set_option linter.unusedVariables false
set_option linter.unusedSimpArgs false
namespace Go.Proofs.YtnolhcdfknjncaaDoor
open Go.RowKit

/-- what is thrown where a run stops; where something is raised -/
def stopV (k : Int) : List PanicEntry := [{ v := .iface 79 (.agg #[.int .i64 k]), recovered := false }]
def raisedV (g : Value) : List PanicEntry := [{ v := .iface 81 (.agg #[g]), recovered := false }]

/-! ### type assertions -/
theorem ta_i_i (x : Value) (w : World) : (Instr.typeAssert (.iface 87 x) 54 87 true).run Tryd.prog w = .ok (.tuple #[x, .bool true]) w := by kernel_rfl
theorem ta_b_i (x : Value) (w : World) : (Instr.typeAssert (.iface 95 x) 54 87 true).run Tryd.prog w = .ok (.tuple #[.int .i64 0, .bool false]) w := by kernel_rfl
theorem ta_f_i (x : Value) (w : World) : (Instr.typeAssert (.iface 88 x) 54 87 true).run Tryd.prog w = .ok (.tuple #[.int .i64 0, .bool false]) w := by kernel_rfl
theorem ta_c_i (x : Value) (w : World) : (Instr.typeAssert (.iface 126 x) 54 87 true).run Tryd.prog w = .ok (.tuple #[.int .i64 0, .bool false]) w := by kernel_rfl
theorem ta_i_b (x : Value) (w : World) : (Instr.typeAssert (.iface 87 x) 54 95 true).run Tryd.prog w = .ok (.tuple #[.pointer none, .bool false]) w := by kernel_rfl
theorem ta_b_b (x : Value) (w : World) : (Instr.typeAssert (.iface 95 x) 54 95 true).run Tryd.prog w = .ok (.tuple #[x, .bool true]) w := by kernel_rfl
theorem ta_f_b (x : Value) (w : World) : (Instr.typeAssert (.iface 88 x) 54 95 true).run Tryd.prog w = .ok (.tuple #[.pointer none, .bool false]) w := by kernel_rfl
theorem ta_c_b (x : Value) (w : World) : (Instr.typeAssert (.iface 126 x) 54 95 true).run Tryd.prog w = .ok (.tuple #[.pointer none, .bool false]) w := by kernel_rfl
theorem ta_i_f (x : Value) (w : World) : (Instr.typeAssert (.iface 87 x) 54 88 true).run Tryd.prog w = .ok (.tuple #[.pointer none, .bool false]) w := by kernel_rfl
theorem ta_b_f (x : Value) (w : World) : (Instr.typeAssert (.iface 95 x) 54 88 true).run Tryd.prog w = .ok (.tuple #[.pointer none, .bool false]) w := by kernel_rfl
theorem ta_f_f (x : Value) (w : World) : (Instr.typeAssert (.iface 88 x) 54 88 true).run Tryd.prog w = .ok (.tuple #[x, .bool true]) w := by kernel_rfl
theorem ta_c_f (x : Value) (w : World) : (Instr.typeAssert (.iface 126 x) 54 88 true).run Tryd.prog w = .ok (.tuple #[.pointer none, .bool false]) w := by kernel_rfl
theorem ta_i_c (x : Value) (w : World) : (Instr.typeAssert (.iface 87 x) 54 126 true).run Tryd.prog w = .ok (.tuple #[.pointer none, .bool false]) w := by kernel_rfl
theorem ta_b_c (x : Value) (w : World) : (Instr.typeAssert (.iface 95 x) 54 126 true).run Tryd.prog w = .ok (.tuple #[.pointer none, .bool false]) w := by kernel_rfl
theorem ta_f_c (x : Value) (w : World) : (Instr.typeAssert (.iface 88 x) 54 126 true).run Tryd.prog w = .ok (.tuple #[.pointer none, .bool false]) w := by kernel_rfl
theorem ta_c_c (x : Value) (w : World) : (Instr.typeAssert (.iface 126 x) 54 126 true).run Tryd.prog w = .ok (.tuple #[x, .bool true]) w := by kernel_rfl
theorem ta_s_s (x : Value) (w : World) : (Instr.typeAssert (.iface 79 x) 20 79 true).run Tryd.prog w = .ok (.tuple #[x, .bool true]) w := by kernel_rfl
theorem ta_s_r (x : Value) (w : World) : (Instr.typeAssert (.iface 79 x) 20 81 true).run Tryd.prog w = .ok (.tuple #[.agg #[.nilIface], .bool false]) w := by kernel_rfl
theorem ta_r_r (x : Value) (w : World) : (Instr.typeAssert (.iface 81 x) 20 81 true).run Tryd.prog w = .ok (.tuple #[x, .bool true]) w := by kernel_rfl
theorem ta_r_s (x : Value) (w : World) : (Instr.typeAssert (.iface 81 x) 20 79 true).run Tryd.prog w = .ok (.tuple #[.agg #[.int .i64 0], .bool false]) w := by kernel_rfl
attribute [go_sem ↓] ta_i_i ta_b_i ta_f_i ta_c_i ta_i_b ta_b_b ta_f_b ta_c_b ta_i_f ta_b_f ta_f_f ta_c_f ta_i_c ta_b_c ta_f_c ta_c_c ta_s_s ta_s_r ta_r_r ta_r_s

theorem stuck_any (w : World) : Calls Tryd.prog 40 #[] w fun e w' => e = .panicked (stopV 4) ∧ w = w' := by
  go_enter Tryd.func40, Tryd.ntmps40
  go_wp2
  exact ⟨rfl, rfl, rfl⟩

theorem key_int (n : Int) (w : World) : Calls Tryd.prog 37 #[.iface 87 (.int .i64 n)] w fun e w' => e = .returned (.int .i64 n) ∧ w = w' := by
  go_enter Tryd.func37, Tryd.ntmps37
  go_wp2_with fail
  go_ret
  exact ⟨rfl, rfl⟩
theorem key_blk (b : Nat) (n : Int) (w : World) (hc : w.cell? ⟨b, 0, none⟩ = some (.int .i64 n)) : Calls Tryd.prog 37 #[.iface 95 (.pointer (some ⟨b, 0, none⟩))] w fun e w' => e = .returned (.int .i64 n) ∧ w = w' := by
  go_enter Tryd.func37, Tryd.ntmps37
  go_wp2_with fail
  go_ret
  exact ⟨rfl, rfl⟩
theorem key_fn (a : Value) (w : World) : Calls Tryd.prog 37 #[.iface 88 a] w fun e w' => e = .panicked (stopV 4) ∧ w = w' := by
  go_enter Tryd.func37, Tryd.ntmps37
  go_wp2_with (go_at_call 40; refine (stuck_any _).mono ?_; rintro e w' ⟨rfl, rfl⟩)
  exact ⟨rfl, rfl, rfl⟩
theorem key_ref (a : Value) (w : World) : Calls Tryd.prog 37 #[.iface 126 a] w fun e w' => e = .panicked (stopV 4) ∧ w = w' := by
  go_enter Tryd.func37, Tryd.ntmps37
  go_wp2_with (go_at_call 40; refine (stuck_any _).mono ?_; rintro e w' ⟨rfl, rfl⟩)
  exact ⟨rfl, rfl, rfl⟩
/-- how a question of a value for a number ends -/
def AskedPost (o : Option Int) (w : World) (e : Ending) (w' : World) : Prop := (∃ n, o = some n ∧ e = .returned (.int .i64 n) ∧ w = w') ∨ (o = none ∧ e = .panicked (stopV 4) ∧ w = w')
theorem at_cell0 {rb : Nat} {m : Mem} {W : World} {b : Nat} {cs : Array Value} {t : TypeId} {fr : Nat × Nat} (h : At rb m W b (.cells cs t fr)) {i : Nat} {v : Value} (hv : cs[i]? = some v) : W.cell? ⟨b, i, none⟩ = some v := by
  simp [World.cell?, h.1, hv]
theorem key_any {rb : Nat} {m : Mem} {W : World} {v : PV} {g : Value} (h : RepV rb m W v g) : Calls Tryd.prog 37 #[g] W (AskedPost (keyOf v) W) := by
  cases h with
  | int n => exact (key_int n W).mono fun e w' ⟨h1, h2⟩ => .inl ⟨n, rfl, h1, h2⟩
  | @blk tag kids b g cap F hb hg hgm hl h8 hc hk => exact (key_blk b tag W (at_cell0 hb rfl)).mono fun e w' ⟨h1, h2⟩ => .inl ⟨tag, rfl, h1, h2⟩
  | fn h => exact (key_fn _ W).mono fun e w' ⟨h1, h2⟩ => .inr ⟨rfl, h1, h2⟩
  | ref h => exact (key_ref _ W).mono fun e w' ⟨h1, h2⟩ => .inr ⟨rfl, h1, h2⟩

theorem number_int (n : Int) (w : World) : Calls Tryd.prog 69 #[.iface 87 (.int .i64 n)] w fun e w' => e = .returned (.int .i64 n) ∧ w = w' := by
  go_enter Tryd.func69, Tryd.ntmps69
  go_wp2_with fail
  go_ret
  exact ⟨rfl, rfl⟩
theorem number_other (T : TypeId) (hT : T = 95 ∨ T = 88 ∨ T = 126) (a : Value) (w : World) : Calls Tryd.prog 69 #[.iface T a] w fun e w' => e = .panicked (stopV 4) ∧ w = w' := by
  rcases hT with rfl | rfl | rfl
  all_goals
    go_enter Tryd.func69, Tryd.ntmps69
    go_wp2_with (go_at_call 40; refine (stuck_any _).mono ?_; rintro e w' ⟨rfl, rfl⟩)
    exact ⟨rfl, rfl, rfl⟩
theorem cnumber_any {rb : Nat} {m : Mem} {W : World} {v : PV} {g : Value} (h : RepV rb m W v g) : Calls Tryd.prog 69 #[g] W (AskedPost (numOf v) W) := by
  cases h with
  | int n => exact (number_int n W).mono fun e w' ⟨h1, h2⟩ => .inl ⟨n, rfl, h1, h2⟩
  | blk hb hg hgm hl h8 hc hk => exact (number_other _ (.inl rfl) _ W).mono fun e w' ⟨h1, h2⟩ => .inr ⟨rfl, h1, h2⟩
  | fn h => exact (number_other _ (.inr (.inl rfl)) _ W).mono fun e w' ⟨h1, h2⟩ => .inr ⟨rfl, h1, h2⟩
  | ref h => exact (number_other _ (.inr (.inr rfl)) _ W).mono fun e w' ⟨h1, h2⟩ => .inr ⟨rfl, h1, h2⟩

/-! ### find -/
def FindPost (rb : Nat) (m : Mem) (W : World) (o : Option PV) (e : Ending) (w' : World) : Prop := (∃ v g, o = some v ∧ e = .returned (.tuple #[g, .bool true]) ∧ RepV rb m W v g ∧ W = w') ∨ (o = none ∧ e = .returned (.tuple #[.nilIface, .bool false]) ∧ W = w')
theorem lookup_cons (x y : Int) (v : PV) (e : PEnv) : lookup ((y, v) :: e) x = if y = x then some v else lookup e x := by
  unfold lookup
  by_cases h : y = x
  · simp [h]
  · have : (y == x) = false := by simpa using h
    simp [List.find?_cons, this, h]
theorem find_any {rb : Nat} {m : Mem} {W : World} {env : PEnv} {g : Value} (h : EnvIn rb m W env g) (x : Int) : Calls Tryd.prog 39 #[g, .int .i64 x] W (FindPost rb m W (lookup env x)) := by
  go_enter Tryd.func39, Tryd.ntmps39
  go_wp2_with fail
  go_loopg [0] env.length (fun k p wr => W = wr ∧ ∃ e' : PEnv, EnvIn rb m W e' p ∧ e'.length = k ∧ lookup env x = lookup e' x)
  case atStart => exact ⟨rfl, env, h, rfl, rfl⟩
  case round =>
    obtain ⟨rfl, e', he, hk, hl⟩ := hrel
    have HL := Lib.hid hl
    clear hl h
    cases he with
    | nil =>
      go_wp2_with fail
      go_ret2
      exact .inr ⟨HL.out, rfl, rfl⟩
    | @cons y v e gv nx b hb hv he =>
      have c0 := at_cell0 hb (i := 0) rfl
      have c1 := at_cell0 hb (i := 1) rfl
      have c2 := at_cell0 hb (i := 2) rfl
      have HK := Lib.hid hk
      clear hk
      by_cases hx : y = x
      · have hx' : (y == x) = true := by simpa using hx
        have hl2 := Lib.hid (HL.out.trans ((lookup_cons x y v e).trans (if_pos hx)))
        have HX := Lib.hid hx
        clear hx
        go_wp2_with fail
        go_ret2
        exact .inl ⟨v, gv, hl2.out, rfl, hv, rfl⟩
      · have hx' : (y == x) = false := by simpa using hx
        have hl2 := Lib.hid (HL.out.trans ((lookup_cons x y v e).trans (if_neg hx)))
        go_wp2_with fail
        go_roundg e.length
        case measure => have := HK.out; simp at this; omega
        case rel => exact ⟨rfl, e, he, rfl, hl2.out⟩

/-! ### num.Do -/
def AsksPost (g : Nat) (w : World) (e : Ending) (w' : World) : Prop :=
  ∃ b, e = .returned (.agg #[.func (.func 93) #[] #[.pointer (some ⟨b, 0, none⟩)]]) ∧ w'.cell? ⟨b, 0, none⟩ = some (.func (.func g) #[] #[]) ∧ w.heap.size ≤ b ∧ Below w.heap.size w w'
theorem asks_any (g : Nat) (w : World) : Calls Tryd.prog 92 #[.func (.func g) #[] #[]] w (AsksPost g w) := by
  go_enter Tryd.func92, Tryd.ntmps92
  go_wp2_with fail
  refine bodyPost_ret (v := .agg #[.func (.func 93) #[] #[.pointer (some ⟨w.heap.size, 0, none⟩)]]) (by simp [results, Tryd.results92, go_sem]) rfl ?_
  exact ⟨w.heap.size, rfl, by rw [World.cell?_alloc_past _ _ _ (by simp), World.cell?_alloc_at _ _ _ _ rfl]; rfl, Nat.le_refl _, ((Below.refl _ _).alloc (Nat.le_refl _) _).alloc (by simp) _⟩

def DoersPost (w : World) (e : Ending) (w' : World) : Prop :=
  ∃ b6 b7 b8 b9, e = .returned (.agg #[.func (.func 95) #[] #[], .func (.func 96) #[] #[], .func (.func 97) #[] #[], .func (.func 98) #[] #[], .func (.func 99) #[] #[],
      .func (.func 93) #[] #[.pointer (some ⟨b6, 0, none⟩)], .func (.func 93) #[] #[.pointer (some ⟨b7, 0, none⟩)], .func (.func 93) #[] #[.pointer (some ⟨b8, 0, none⟩)], .func (.func 93) #[] #[.pointer (some ⟨b9, 0, none⟩)]]) ∧
    w'.cell? ⟨b6, 0, none⟩ = some (.func (.func 100) #[] #[]) ∧ w'.cell? ⟨b7, 0, none⟩ = some (.func (.func 101) #[] #[]) ∧ w'.cell? ⟨b8, 0, none⟩ = some (.func (.func 102) #[] #[]) ∧ w'.cell? ⟨b9, 0, none⟩ = some (.func (.func 103) #[] #[]) ∧ Below w.heap.size w w'
theorem cell_behind {W W' : World} (hb : Below W.heap.size W W') {b o : Nat} {v : Value} (h : W.cell? ⟨b, o, none⟩ = some v) : W'.cell? ⟨b, o, none⟩ = some v :=
  (hb.cell (p := ⟨b, o, none⟩) (World.block_lt_of_cell? _ _ h)).trans h
set_option maxHeartbeats 1000000 in
theorem doers_any (w : World) : Calls Tryd.prog 87 #[] w (DoersPost w) := by
  go_enter Tryd.func87, Tryd.ntmps87
  go_wp2_with fail
  refine (asks_any _ _).mono ?_
  rintro e w1 ⟨b6, rfl, h6, hl6, hb1⟩
  go_wp2_with fail
  refine (asks_any _ _).mono ?_
  rintro e w2 ⟨b7, rfl, h7, hl7, hb2⟩
  go_wp2_with fail
  refine (asks_any _ _).mono ?_
  rintro e w3 ⟨b8, rfl, h8, hl8, hb3⟩
  go_wp2_with fail
  refine (asks_any _ _).mono ?_
  rintro e w4 ⟨b9, rfl, h9, hl9, hb4⟩
  have hw0 : (w.alloc (.cells #[Value.nilFunc, Value.nilFunc, Value.nilFunc, Value.nilFunc, Value.nilFunc, Value.nilFunc, Value.nilFunc, Value.nilFunc, Value.nilFunc] 150)).heap[w.heap.size]? = some (.cells #[Value.nilFunc, Value.nilFunc, Value.nilFunc, Value.nilFunc, Value.nilFunc, Value.nilFunc, Value.nilFunc, Value.nilFunc, Value.nilFunc] 150) := World.alloc_heap_new w _
  have s1 := hb1.size
  have s2 := hb2.size
  have s3 := hb3.size
  have s4 := hb4.size
  simp only [World.size_alloc] at s1 hl6
  have hw4 : w4.heap[w.heap.size]? = some (.cells #[Value.nilFunc, Value.nilFunc, Value.nilFunc, Value.nilFunc, Value.nilFunc, Value.nilFunc, Value.nilFunc, Value.nilFunc, Value.nilFunc] 150) :=
    (hb4.block _ (by omega)).trans ((hb3.block _ (by omega)).trans ((hb2.block _ (by omega)).trans ((hb1.block _ (by simp)).trans hw0)))
  have k0 : w4.cell? ⟨w.heap.size, 0, none⟩ = some .nilFunc := by simp [World.cell?, hw4]
  have k1 : w4.cell? ⟨w.heap.size, 1, none⟩ = some .nilFunc := by simp [World.cell?, hw4]
  have k2 : w4.cell? ⟨w.heap.size, 2, none⟩ = some .nilFunc := by simp [World.cell?, hw4]
  have k3 : w4.cell? ⟨w.heap.size, 3, none⟩ = some .nilFunc := by simp [World.cell?, hw4]
  have k4 : w4.cell? ⟨w.heap.size, 4, none⟩ = some .nilFunc := by simp [World.cell?, hw4]
  have k5 : w4.cell? ⟨w.heap.size, 5, none⟩ = some .nilFunc := by simp [World.cell?, hw4]
  have k6 : w4.cell? ⟨w.heap.size, 6, none⟩ = some .nilFunc := by simp [World.cell?, hw4]
  have k7 : w4.cell? ⟨w.heap.size, 7, none⟩ = some .nilFunc := by simp [World.cell?, hw4]
  have k8 : w4.cell? ⟨w.heap.size, 8, none⟩ = some .nilFunc := by simp [World.cell?, hw4]
  have fz : ∀ i, w4.frozen? ⟨w.heap.size, i, none⟩ = false := fun i => by simp [World.frozen?, hw4]
  have hB4 : Below w.heap.size w w4 := ((Below.refl _ w).alloc (Nat.le_refl _) _).trans ((hb1.mono (by simp)).trans ((hb2.mono (by omega)).trans ((hb3.mono (by omega)).trans (hb4.mono (by omega)))))
  have q6 := cell_behind hb4 (cell_behind hb3 (cell_behind hb2 h6))
  have q7 := cell_behind hb4 (cell_behind hb3 h7)
  have q8 := cell_behind hb4 h8
  have HB := Lib.hid hB4
  have H6 := Lib.hid q6
  have H7 := Lib.hid q7
  have H8 := Lib.hid q8
  have H9 := Lib.hid h9
  clear hb1 hb2 hb3 hb4 h6 h7 h8 h9 q6 q7 q8 hB4 hw0 hw4
  go_wp2_with fail
  refine bodyPost_ret (v := .agg #[.func (.func 95) #[] #[], .func (.func 96) #[] #[], .func (.func 97) #[] #[], .func (.func 98) #[] #[], .func (.func 99) #[] #[],
      .func (.func 93) #[] #[.pointer (some ⟨b6, 0, none⟩)], .func (.func 93) #[] #[.pointer (some ⟨b7, 0, none⟩)], .func (.func 93) #[] #[.pointer (some ⟨b8, 0, none⟩)], .func (.func 93) #[] #[.pointer (some ⟨b9, 0, none⟩)]])
    (by simp [results, Tryd.results87, go_sem, k0, k1, k2, k3, k4, k5, k6, k7, k8]) rfl ?_
  have hne : ∀ (V : World) (o : Nat) (u : Value) (b : Nat), w.heap.size < b → (V.setCell ⟨w.heap.size, o, none⟩ u).cell? ⟨b, 0, none⟩ = V.cell? ⟨b, 0, none⟩ := fun V o u b hb => World.cell?_of_block (w := V) (Below.heap_setCell V _ _ b (by show b ≠ w.heap.size; omega))
  refine ⟨b6, b7, b8, b9, rfl, ?_, ?_, ?_, ?_, ?_⟩
  · rw [hne _ _ _ _ (by omega), hne _ _ _ _ (by omega), hne _ _ _ _ (by omega), hne _ _ _ _ (by omega), hne _ _ _ _ (by omega), hne _ _ _ _ (by omega), hne _ _ _ _ (by omega), hne _ _ _ _ (by omega), hne _ _ _ _ (by omega)]; exact H6.out
  · rw [hne _ _ _ _ (by omega), hne _ _ _ _ (by omega), hne _ _ _ _ (by omega), hne _ _ _ _ (by omega), hne _ _ _ _ (by omega), hne _ _ _ _ (by omega), hne _ _ _ _ (by omega), hne _ _ _ _ (by omega), hne _ _ _ _ (by omega)]; exact H7.out
  · rw [hne _ _ _ _ (by omega), hne _ _ _ _ (by omega), hne _ _ _ _ (by omega), hne _ _ _ _ (by omega), hne _ _ _ _ (by omega), hne _ _ _ _ (by omega), hne _ _ _ _ (by omega), hne _ _ _ _ (by omega), hne _ _ _ _ (by omega)]; exact H8.out
  · rw [hne _ _ _ _ (by omega), hne _ _ _ _ (by omega), hne _ _ _ _ (by omega), hne _ _ _ _ (by omega), hne _ _ _ _ (by omega), hne _ _ _ _ (by omega), hne _ _ _ _ (by omega), hne _ _ _ _ (by omega), hne _ _ _ _ (by omega)]; exact H9.out
  · exact ((((((((HB.out.setCell (p := ⟨_, _, none⟩) (Nat.le_refl _) _).setCell (p := ⟨_, _, none⟩) (Nat.le_refl _) _).setCell (p := ⟨_, _, none⟩) (Nat.le_refl _) _).setCell (p := ⟨_, _, none⟩) (Nat.le_refl _) _).setCell (p := ⟨_, _, none⟩) (Nat.le_refl _) _).setCell (p := ⟨_, _, none⟩) (Nat.le_refl _) _).setCell (p := ⟨_, _, none⟩) (Nat.le_refl _) _).setCell (p := ⟨_, _, none⟩) (Nat.le_refl _) _).setCell (p := ⟨_, _, none⟩) (Nat.le_refl _) _

end Go.Proofs.YtnolhcdfknjncaaDoor

/-
  num.Do: what is done with two ints.
-/
set_option linter.unusedVariables false
set_option linter.unusedSimpArgs false
namespace Go.Proofs.YtnolhcdfknjncaaDoor
open Go.RowKit

theorem doer_at0 (x0 x1 x2 x3 x4 x5 x6 x7 x8 : Value) (w : World) : (Instr.index 150 (.agg #[x0, x1, x2, x3, x4, x5, x6, x7, x8]) (.int .i64 0)).run Tryd.prog w = .ok (.agg #[x0]) w := by kernel_rfl
theorem doer_at1 (x0 x1 x2 x3 x4 x5 x6 x7 x8 : Value) (w : World) : (Instr.index 150 (.agg #[x0, x1, x2, x3, x4, x5, x6, x7, x8]) (.int .i64 1)).run Tryd.prog w = .ok (.agg #[x1]) w := by kernel_rfl
theorem doer_at2 (x0 x1 x2 x3 x4 x5 x6 x7 x8 : Value) (w : World) : (Instr.index 150 (.agg #[x0, x1, x2, x3, x4, x5, x6, x7, x8]) (.int .i64 2)).run Tryd.prog w = .ok (.agg #[x2]) w := by kernel_rfl
theorem doer_at3 (x0 x1 x2 x3 x4 x5 x6 x7 x8 : Value) (w : World) : (Instr.index 150 (.agg #[x0, x1, x2, x3, x4, x5, x6, x7, x8]) (.int .i64 3)).run Tryd.prog w = .ok (.agg #[x3]) w := by kernel_rfl
theorem doer_at4 (x0 x1 x2 x3 x4 x5 x6 x7 x8 : Value) (w : World) : (Instr.index 150 (.agg #[x0, x1, x2, x3, x4, x5, x6, x7, x8]) (.int .i64 4)).run Tryd.prog w = .ok (.agg #[x4]) w := by kernel_rfl
theorem doer_at5 (x0 x1 x2 x3 x4 x5 x6 x7 x8 : Value) (w : World) : (Instr.index 150 (.agg #[x0, x1, x2, x3, x4, x5, x6, x7, x8]) (.int .i64 5)).run Tryd.prog w = .ok (.agg #[x5]) w := by kernel_rfl
theorem doer_at6 (x0 x1 x2 x3 x4 x5 x6 x7 x8 : Value) (w : World) : (Instr.index 150 (.agg #[x0, x1, x2, x3, x4, x5, x6, x7, x8]) (.int .i64 6)).run Tryd.prog w = .ok (.agg #[x6]) w := by kernel_rfl
theorem doer_at7 (x0 x1 x2 x3 x4 x5 x6 x7 x8 : Value) (w : World) : (Instr.index 150 (.agg #[x0, x1, x2, x3, x4, x5, x6, x7, x8]) (.int .i64 7)).run Tryd.prog w = .ok (.agg #[x7]) w := by kernel_rfl
theorem doer_at8 (x0 x1 x2 x3 x4 x5 x6 x7 x8 : Value) (w : World) : (Instr.index 150 (.agg #[x0, x1, x2, x3, x4, x5, x6, x7, x8]) (.int .i64 8)).run Tryd.prog w = .ok (.agg #[x8]) w := by kernel_rfl
theorem doer_do (fn : Fn) (fi ca : Array Value) (w : World) : (Instr.field 149 (.agg #[.func fn fi ca]) 0).run Tryd.prog w = .ok (.func fn fi ca) w := by kernel_rfl
attribute [go_sem ↓] doer_do doer_at0 doer_at1 doer_at2 doer_at3 doer_at4 doer_at5 doer_at6 doer_at7 doer_at8

def DoPost (p a b : Int) (w : World) (e : Ending) (w' : World) : Prop := (∃ n, doP p a b = some n ∧ e = .returned (.tuple #[.int .i64 n, .int .i64 0]) ∧ Below w.heap.size w w') ∨ (doP p a b = none ∧ e = .returned (.tuple #[.int .i64 0, .int .i64 2]) ∧ Below w.heap.size w w')
theorem wrap31_wrap64 (n : Int) : wrap31 (wrap64 n) = wrap31 n := by unfold wrap31 wrap64; omega
theorem wrap31_range (n : Int) : -1073741824 ≤ wrap31 n ∧ wrap31 n ≤ 1073741823 := by unfold wrap31; omega
theorem tup_int {a b c d : Int} (h1 : a = b) (h2 : c = d) : Ending.returned (.tuple #[.int .i64 a, .int .i64 c]) = .returned (.tuple #[.int .i64 b, .int .i64 d]) := by rw [h1, h2]
theorem doP_1 (a b : Int) : doP 1 a b = some (wrap31 (wrap31 a + wrap31 b)) := by simp [doP]
theorem doP_2 (a b : Int) : doP 2 a b = some (wrap31 (wrap31 a - wrap31 b)) := by simp [doP]
theorem doP_3 (a b : Int) : doP 3 a b = some (wrap31 (wrap31 a * wrap31 b)) := by simp [doP]
theorem doP_4 (a b : Int) (h : wrap31 b ≠ 0) : doP 4 a b = some (wrap31 ((wrap31 a).tdiv (wrap31 b))) := by simp [doP, h]
theorem doP_5 (a b : Int) (h : wrap31 b ≠ 0) : doP 5 a b = some (wrap31 ((wrap31 a).tmod (wrap31 b))) := by simp [doP, h]
theorem doP_6 (a b : Int) : doP 6 a b = some (wrap31 (if wrap31 a = wrap31 b then 1 else 0)) := by simp [doP]
theorem doP_7 (a b : Int) : doP 7 a b = some (wrap31 (if wrap31 a ≠ wrap31 b then 1 else 0)) := by simp [doP]
theorem doP_8 (a b : Int) : doP 8 a b = some (wrap31 (if wrap31 a < wrap31 b then 1 else 0)) := by simp [doP]
theorem doP_9 (a b : Int) : doP 9 a b = some (wrap31 (if wrap31 a ≤ wrap31 b then 1 else 0)) := by simp [doP]
set_option maxRecDepth 100000 in
set_option maxHeartbeats 1000000 in
theorem do_small (p a b : Int) (hp : p = 1 ∨ p = 2 ∨ p = 3) (w : World) : Calls Tryd.prog 72 #[.int .i64 p, .int .i64 a, .int .i64 b] w (DoPost p a b w) := by
  rcases hp with rfl | rfl | rfl
  all_goals
    go_enter Tryd.func72, Tryd.ntmps72
    go_wp2_with (first | (go_at_call 70; refine (wrap_any _ _).mono ?_; rintro e w' ⟨rfl, rfl⟩) | (go_at_call 87; refine (doers_any _).mono ?_; rintro e w1 ⟨b6, b7, b8, b9, rfl, h6, h7, h8, h9, hb1⟩) | (go_at_call 95; go_in) | (go_at_call 96; go_in) | (go_at_call 97; go_in))
    go_ret2
    first | exact .inl ⟨_, doP_1 a b, tup_int (by rw [wrap31_wrap64]) rfl, hb1⟩ | exact .inl ⟨_, doP_2 a b, tup_int (by rw [wrap31_wrap64]) rfl, hb1⟩ | exact .inl ⟨_, doP_3 a b, tup_int (by rw [wrap31_wrap64]) rfl, hb1⟩
set_option maxRecDepth 100000 in
set_option maxHeartbeats 1000000 in
theorem do_div (p a b : Int) (hp : p = 4 ∨ p = 5) (w : World) : Calls Tryd.prog 72 #[.int .i64 p, .int .i64 a, .int .i64 b] w (DoPost p a b w) := by
  by_cases hb : wrap31 b = 0
  · have hd : doP p a b = none := by simp [doP, hb, hp]
    have hb' : (wrap31 b == 0) = true := by simpa using hb
    have HD := Lib.hid hd
    clear hd
    rcases hp with rfl | rfl
    all_goals
      go_enter Tryd.func72, Tryd.ntmps72
      go_wp2_with (first | (go_at_call 70; refine (wrap_any _ _).mono ?_; rintro e w' ⟨rfl, rfl⟩) | (go_at_call 87; refine (doers_any _).mono ?_; rintro e w1 ⟨b6, b7, b8, b9, rfl, h6, h7, h8, h9, hb1⟩) )
      go_ret2
      exact .inr ⟨HD.out, rfl, Below.refl _ _⟩
  · have hb' : (wrap31 b == 0) = false := by simpa using hb
    rcases hp with rfl | rfl
    all_goals
      go_enter Tryd.func72, Tryd.ntmps72
      go_wp2_with (first | (go_at_call 70; refine (wrap_any _ _).mono ?_; rintro e w' ⟨rfl, rfl⟩) | (go_at_call 87; refine (doers_any _).mono ?_; rintro e w1 ⟨b6, b7, b8, b9, rfl, h6, h7, h8, h9, hb1⟩) | (go_at_call 98; go_in) | (go_at_call 99; go_in))
      go_ret2
      first | exact .inl ⟨_, doP_4 a b hb, tup_int (by first | rw [wrap31_wrap64] | rfl) rfl, hb1⟩ | exact .inl ⟨_, doP_5 a b hb, tup_int (by first | rw [wrap31_wrap64] | rfl) rfl, hb1⟩
set_option maxRecDepth 100000 in
set_option maxHeartbeats 2000000 in
theorem do_cmp (p a b : Int) (hp : p = 6 ∨ p = 7 ∨ p = 8 ∨ p = 9) (w : World) : Calls Tryd.prog 72 #[.int .i64 p, .int .i64 a, .int .i64 b] w (DoPost p a b w) := by
  rcases hp with rfl | rfl | rfl | rfl
  all_goals
    go_enter Tryd.func72, Tryd.ntmps72
    go_wp2_with (first | (go_at_call 70; refine (wrap_any _ _).mono ?_; rintro e w' ⟨rfl, rfl⟩) | (go_at_call 87; refine (doers_any _).mono ?_; rintro e w1 ⟨b6, b7, b8, b9, rfl, h6, h7, h8, h9, hb1⟩) | (go_at_call 93; go_in) | (go_at_call 94; go_in) | (go_at_call 100; go_in) | (go_at_call 101; go_in) | (go_at_call 102; go_in) | (go_at_call 103; go_in))
    all_goals
      go_ret2
      first
        | exact .inl ⟨_, doP_6 a b, tup_int (by simp_all) rfl, hb1⟩
        | exact .inl ⟨_, doP_7 a b, tup_int (by simp_all) rfl, hb1⟩
        | exact .inl ⟨_, doP_8 a b, tup_int (by first | rw [if_pos (by omega)] | rw [if_neg (by omega)]) rfl, hb1⟩
        | exact .inl ⟨_, doP_9 a b, tup_int (by first | rw [if_pos (by omega)] | rw [if_neg (by omega)]) rfl, hb1⟩

theorem do_any (p a b : Int) (h1 : 1 ≤ p) (h2 : p ≤ 9) (w : World) : Calls Tryd.prog 72 #[.int .i64 p, .int .i64 a, .int .i64 b] w (DoPost p a b w) := by
  by_cases h3 : p = 1 ∨ p = 2 ∨ p = 3
  · exact do_small p a b h3 w
  by_cases h4 : p = 4 ∨ p = 5
  · exact do_div p a b h4 w
  exact do_cmp p a b (by omega) w

end Go.Proofs.YtnolhcdfknjncaaDoor

/-
  The program's evaluator: calls; what is raised and caught.
-/
set_option linter.unusedVariables false
set_option linter.unusedSimpArgs false
namespace Go.Proofs.YtnolhcdfknjncaaDoor
open Go.RowKit

/-- what is thrown: what was recovered and thrown again lies behind it -/
def Thrown (T : TypeId) (x : Value) (ch : List PanicEntry) : Prop := ∃ older : List PanicEntry, ch = { v := .iface T x, recovered := false } :: older ∧ ∀ p ∈ older, p.goexit = false
theorem thrown_one (T : TypeId) (x : Value) : Thrown T x [{ v := .iface T x, recovered := false }] := ⟨[], rfl, by simp⟩

/-- how an evaluation ends in memory -/
inductive EvPost (rb B : Nat) (inp : List Int) (fuel : Nat) (m : Mem) (W : World) : Out → Ending → World → Prop
  | val {v : PV} {s : St} {m' : Mem} {W' : World} {g : Value} (hk : Evo rb m m' W W') (hg : Good rb B inp fuel s m' W') (hv : RepV rb m' W' v g) : EvPost rb B inp fuel m W (.val v, s) (.returned g) W'
  | raised {v : PV} {s : St} {m' : Mem} {W' : World} {g : Value} {ch : List PanicEntry} (hk : Evo rb m m' W W') (hg : Good rb B inp fuel s m' W') (hv : RepV rb m' W' v g) (hkey : ∃ k, keyOf v = some k) (hth : Thrown 81 (.agg #[g]) ch) : EvPost rb B inp fuel m W (.raised v, s) (.panicked ch) W'
  | stuck {s : St} {m' : Mem} {W' : World} {ch : List PanicEntry} (hk : Evo rb m m' W W') (hg : Good rb B inp fuel s m' W') (hth : Thrown 79 (.agg #[.int .i64 4]) ch) : EvPost rb B inp fuel m W (.stuck, s) (.panicked ch) W'
  | cut {s : St} {m' : Mem} {W' : World} {ch : List PanicEntry} (hk : Evo rb m m' W W') (hg : Good rb B inp fuel s m' W') (hth : Thrown 79 (.agg #[.int .i64 3]) ch) : EvPost rb B inp fuel m W (.cut, s) (.panicked ch) W'
theorem EvPost.from_ {rb B : Nat} {inp : List Int} {fuel : Nat} {m m' : Mem} {W W' : World} (hk : Evo rb m m' W W') {o : Out} {e : Ending} {V : World} (h : EvPost rb B inp fuel m' W' o e V) : EvPost rb B inp fuel m W o e V := by
  cases h with
  | val h1 h2 h3 => exact .val (hk.trans h1) h2 h3
  | raised h1 h2 h3 h4 h5 => exact .raised (hk.trans h1) h2 h3 h4 h5
  | stuck h1 h2 h3 => exact .stuck (hk.trans h1) h2 h3
  | cut h1 h2 h3 => exact .cut (hk.trans h1) h2 h3

theorem EvPost.ends {rb B : Nat} {inp : List Int} {fuel : Nat} {m : Mem} {W : World} {o : Out} {e : Ending} {V : World} (h : EvPost rb B inp fuel m W o e V) :
    (∃ g, e = .returned g ∧ EvPost rb B inp fuel m W o (.returned g) V) ∨ (∃ ch, e = .panicked ch ∧ EvPost rb B inp fuel m W o (.panicked ch) V) := by
  cases h with
  | val h1 h2 h3 => exact .inl ⟨_, rfl, .val h1 h2 h3⟩
  | raised h1 h2 h3 h4 h5 => exact .inr ⟨_, rfl, .raised h1 h2 h3 h4 h5⟩
  | stuck h1 h2 h3 => exact .inr ⟨_, rfl, .stuck h1 h2 h3⟩
  | cut h1 h2 h3 => exact .inr ⟨_, rfl, .cut h1 h2 h3⟩

theorem EvPost.evo {rb B : Nat} {inp : List Int} {fuel : Nat} {m : Mem} {W : World} {o : Out} {e : Ending} {V : World} (h : EvPost rb B inp fuel m W o e V) : ∃ m', Evo rb m m' W V := by
  cases h with
  | val h1 h2 h3 => exact ⟨_, h1⟩
  | raised h1 h2 h3 h4 h5 => exact ⟨_, h1⟩
  | stuck h1 h2 h3 => exact ⟨_, h1⟩
  | cut h1 h2 h3 => exact ⟨_, h1⟩

/-- terms are evaluated as they should, to a depth -/
def TermOk (rb B : Nat) (inp : List Int) (fuel n : Nat) : Prop :=
  ∀ (t : Core) (e : PEnv) (s : St) (m : Mem) (W : World) (gt : Array Value) (ge : Value), CoreIn B W t gt → WT t → EnvIn rb m W e ge → Good rb B inp fuel s m W → s.left < n →
    Calls Tryd.prog 26 #[.pointer (some ⟨rb, 0, none⟩), .agg gt, ge] W (EvPost rb B inp fuel m W (ev inp n t e s))

theorem at_new {rb : Nat} {m : Mem} {W : World} (hm : ∀ k, m.apart rb k → k < W.heap.size) (cs : Array Value) (t : TypeId) : At rb m (W.alloc (.cells cs t)) W.heap.size (.cells cs t) :=
  ⟨World.alloc_heap_new W _, fun h => by have := hm _ h; omega⟩
theorem Good.mutLt {rb B : Nat} {inp : List Int} {fuel : Nat} {s : St} {m : Mem} {W : World} (h : Good rb B inp fuel s m W) {k : Nat} (hk : m.mut rb k) : k < W.heap.size := by
  rcases hk with rfl | hk | hk
  · obtain ⟨_, _, hr, _⟩ := h.run; exact (Array.getElem?_eq_some_iff.1 hr).1
  · exact (h.out.lt k hk).2
  · obtain ⟨i, hi, rfl⟩ := List.getElem_of_mem hk
    obtain ⟨b, gv, h1, h2, _⟩ := h.cells i (by rw [← h.calen]; exact hi)
    rw [List.getElem?_eq_getElem hi] at h1
    cases h1
    exact (Array.getElem?_eq_some_iff.1 h2).1
theorem Good.apartLt {rb B : Nat} {inp : List Int} {fuel : Nat} {s : St} {m : Mem} {W : World} (h : Good rb B inp fuel s m W) {k : Nat} (hk : m.apart rb k) : k < W.heap.size :=
  hk.elim h.mutLt fun hp => (h.priv k hp).2.1

theorem RepV.shape {rb : Nat} {m : Mem} {W : World} {v : PV} {g : Value} (h : RepV rb m W v g) : ∃ T p, g = .iface T p := by
  cases h <;> exact ⟨_, _, rfl⟩
theorem EnvIn.shape {rb : Nat} {m : Mem} {W : World} {e : PEnv} {g : Value} (h : EnvIn rb m W e g) : ∃ p, g = .pointer p := by
  cases h <;> exact ⟨_, rfl⟩
theorem CoreIn.shape {B : Nat} {w : World} {t : Core} {v : Array Value} (h : CoreIn B w t v) : ∃ k n A na ca A' nb cb, v = #[.int .i64 k, .int .i64 n, .slice A na ca, .slice A' nb cb] := by
  cases h; exact ⟨_, _, _, _, _, _, _, _, rfl⟩

end Go.Proofs.YtnolhcdfknjncaaDoor

/-
  The program's evaluator: calls.
-/
set_option linter.unusedVariables false
set_option linter.unusedSimpArgs false
namespace Go.Proofs.YtnolhcdfknjncaaDoor
open Go.RowKit
set_option maxRecDepth 100000 in
set_option maxHeartbeats 400000 in
theorem call_fn {rb B : Nat} {inp : List Int} {fuel n : Nat} (hok : TermOk rb B inp fuel n) (i : Nat) (a : PV) (s : St) (m : Mem) (W : World) (gf ga : Value) (hf : RepV rb m W (.fn i) gf) (ha : RepV rb m W a ga) (hg : Good rb B inp fuel s m W) (hn : s.left < n) :
    Calls Tryd.prog 41 #[.pointer (some ⟨rb, 0, none⟩), gf, ga] W (EvPost rb B inp fuel m W (callP (ev inp n) (.fn i) a s)) := by
  cases hf with
  | @fn i b hb =>
    have hlen : i < s.fns.length := by rw [← hg.falen]; exact (List.getElem?_eq_some_iff.1 hb).1
    obtain ⟨b', c0, c1, c2, c3, kp, h1, h2, h3, h4, h5⟩ := hg.fns i hlen
    rw [hb] at h1
    cases h1
    obtain ⟨Ta, xa, rfl⟩ := ha.shape
    obtain ⟨pk, rfl⟩ := h5.shape
    have e0 := at_cell0 h2 (i := 0) rfl
    have e1 := at_cell0 h2 (i := 1) rfl
    have e2 := at_cell0 h2 (i := 2) rfl
    have e3 := at_cell0 h2 (i := 3) rfl
    have e4 := at_cell0 h2 (i := 4) rfl
    have e5 := at_cell0 h2 (i := 5) rfl
    simp only [List.getElem_toArray, List.getElem_cons_zero, List.getElem_cons_succ] at e0 e1 e2 e3 e4 e5
    have hcall : callP (ev inp n) (.fn i) a s = ev inp n s.fns[i].body ((s.fns[i].param, a) :: s.fns[i].env) s := by
      simp [callP, List.getElem?_eq_getElem hlen]
    rw [hcall]
    have hk1 : Evo rb m m W (W.alloc (.cells #[.int .i64 s.fns[i].param, .iface Ta xa, .pointer pk] 93)) := Evo.alloc _ _ _ _
    have hg1 := hg.below ((Below.refl _ _).alloc (Nat.le_refl _) (.cells #[.int .i64 s.fns[i].param, .iface Ta xa, .pointer pk] 93))
    have henv : EnvIn rb m (W.alloc (.cells #[.int .i64 s.fns[i].param, .iface Ta xa, .pointer pk] 93)) ((s.fns[i].param, a) :: s.fns[i].env) (.pointer (some ⟨W.heap.size, 0, none⟩)) :=
      .cons (at_new (fun k hk => hg.apartLt hk) _ _) (ha.evo hk1) (h5.evo hk1)
    have HC := Lib.hid (fun (V : World) (hV : Below (W.alloc (.cells #[.int .i64 s.fns[i].param, .iface Ta xa, .pointer pk] 93)).heap.size (W.alloc (.cells #[.int .i64 s.fns[i].param, .iface Ta xa, .pointer pk] 93)) V) =>
      (hok _ _ _ m V #[c0, c1, c2, c3] _ (h3.stay ((hg.stay hk1).trans (hg1.stay (Evo.below hV)))) h4 (henv.evo (Evo.below hV)) (hg1.below hV) hn).mono fun e V' h => h.from_ (hk1.trans (Evo.below hV)))
    generalize ev inp n s.fns[i].body ((s.fns[i].param, a) :: s.fns[i].env) s = o at HC ⊢
    generalize s.fns[i].param = pp at *
    have HS := Lib.hid (fun (V : World) (m' : Mem) (hE : Evo rb m m' W V) => (show V.cell? ⟨b, 0, none⟩ = some (.int .i64 pp) ∧ V.cell? ⟨b, 1, none⟩ = some c0 ∧ V.cell? ⟨b, 2, none⟩ = some c1 ∧ V.cell? ⟨b, 3, none⟩ = some c2 ∧ V.cell? ⟨b, 4, none⟩ = some c3 ∧ V.cell? ⟨b, 5, none⟩ = some (.pointer pk) from
      ⟨at_cell0 (h2.evo hE) rfl, at_cell0 (h2.evo hE) rfl, at_cell0 (h2.evo hE) rfl, at_cell0 (h2.evo hE) rfl, at_cell0 (h2.evo hE) rfl, at_cell0 (h2.evo hE) rfl⟩))
    clear hcall hok hk1 hg1 henv h2 h3 h4 h5 ha
    go_enter Tryd.func41, Tryd.ntmps41
    go_wp2_with fail
    go_region_held2 (fun w' => w'.cell? ⟨b, 0, none⟩ = some (.int .i64 pp) ∧ w'.cell? ⟨b, 1, none⟩ = some c0 ∧ w'.cell? ⟨b, 2, none⟩ = some c1 ∧ w'.cell? ⟨b, 3, none⟩ = some c2 ∧ w'.cell? ⟨b, 4, none⟩ = some c3 ∧ w'.cell? ⟨b, 5, none⟩ = some (.pointer pk))
      (first | exact HS.out _ _ (Evo.refl _ _ _).drew | exact HS.out _ _ ((Evo.refl _ _ _).drew.trans (Evo.alloc _ _ _ _)) | exact HS.out _ _ hEV)
      ((go_at_call 26; refine (HC.out _ ?_).mono ?_; (exact (Below.refl _ _).drew); rintro e w' h; obtain ⟨mE, hEV⟩ := h.evo; rcases h.ends with ⟨g, rfl, hP⟩ | ⟨ch, rfl, hP⟩; rotate_left; exact ⟨rfl, hP⟩))
    all_goals (go_wp2_with fail; go_ret; exact hP)

theorem call_other {rb B : Nat} {inp : List Int} {fuel n : Nat} (T : TypeId) (hT : T = 87 ∨ T = 95 ∨ T = 126) (x ga : Value) (r : Value) (W : World) :
    Calls Tryd.prog 41 #[r, .iface T x, ga] W fun e w' => e = .panicked (stopV 4) ∧ W = w' := by
  rcases hT with rfl | rfl | rfl
  all_goals
    go_enter Tryd.func41, Tryd.ntmps41
    go_wp2_with (go_at_call 40; refine (stuck_any _).mono ?_; rintro e w' ⟨rfl, rfl⟩)
    exact ⟨rfl, rfl, rfl⟩

theorem call_any {rb B : Nat} {inp : List Int} {fuel n : Nat} (hok : TermOk rb B inp fuel n) (f a : PV) (s : St) (m : Mem) (W : World) (gf ga : Value) (hf : RepV rb m W f gf) (ha : RepV rb m W a ga) (hg : Good rb B inp fuel s m W) (hn : s.left < n) :
    Calls Tryd.prog 41 #[.pointer (some ⟨rb, 0, none⟩), gf, ga] W (EvPost rb B inp fuel m W (callP (ev inp n) f a s)) := by
  have hst : ∀ e w', e = .panicked (stopV 4) ∧ W = w' → EvPost rb B inp fuel m W (.stuck, s) e w' := fun e w' h => by
    obtain ⟨rfl, rfl⟩ := h
    exact .stuck (Evo.refl _ _ _) hg (thrown_one _ _)
  cases f with
  | fn i => exact call_fn hok i a s m W gf ga hf ha hg hn
  | int k => cases hf; exact (call_other (rb := rb) (B := B) (inp := inp) (fuel := fuel) (n := n) _ (.inl rfl) _ _ _ W).mono hst
  | blk t l => cases hf; exact (call_other (rb := rb) (B := B) (inp := inp) (fuel := fuel) (n := n) _ (.inr (.inl rfl)) _ _ _ W).mono hst
  | ref i => cases hf; exact (call_other (rb := rb) (B := B) (inp := inp) (fuel := fuel) (n := n) _ (.inr (.inr rfl)) _ _ _ W).mono hst
end Go.Proofs.YtnolhcdfknjncaaDoor

/-
  The program's evaluator: what is raised is caught.
-/
set_option linter.unusedVariables false
set_option linter.unusedSimpArgs false
namespace Go.Proofs.YtnolhcdfknjncaaDoor
open Go.RowKit

/-! ### a store into a variable that no value of the run lies in -/
structure Odd (rb B : Nat) (m : Mem) (W : World) (b : Nat) (T : TypeId) (x : Value) : Prop where
  lies : W.heap[b]? = some (.cells #[x] T (0, 0))
  ty : T = 54 ∨ T = 4
  odd : ∀ U y, x ≠ .iface U y
  still : ¬ m.apart rb b
  lo : B ≤ b
section
variable {rb B : Nat} {inp : List Int} {fuel : Nat} {s : St} {m : Mem} {W : World} {b : Nat} {T : TypeId} {x : Value}
theorem Odd.heap (h : Odd rb B m W b T x) (v : Value) {k : Nat} (hk : k ≠ b) : (W.setCell ⟨b, 0, none⟩ v).heap[k]? = W.heap[k]? := Below.heap_setCell W _ _ k hk
theorem Odd.at_ (h : Odd rb B m W b T x) (v : Value) {k : Nat} {cs : Array Value} {U : TypeId} {fr : Nat × Nat} (hU : U ≠ 54 ∧ U ≠ 4) (ha : At rb m W k (.cells cs U fr)) : At rb m (W.setCell ⟨b, 0, none⟩ v) k (.cells cs U fr) := by
  refine ⟨(h.heap v ?_).trans ha.1, ha.2⟩
  rintro rfl
  have := h.lies.symm.trans ha.1
  simp only [Option.some.injEq, Obj.cells.injEq] at this
  rcases h.ty with h1 | h1
  · exact hU.1 (this.2.1.symm.trans h1)
  · exact hU.2 (this.2.1.symm.trans h1)
theorem Odd.rep (h : Odd rb B m W b T x) (v : Value) {p : PV} {g : Value} (hr : RepV rb m W p g) : RepV rb m (W.setCell ⟨b, 0, none⟩ v) p g := by
  induction hr with
  | int n => exact .int n
  | @blk tag kids bb g cap F hb hg hgm hl h8 hc hk ih =>
    refine .blk (h.at_ v (by decide) hb) (by simpa [World.setCell] using hg) hgm hl h8 (fun j hj => ?_) ih
    refine (cell_of_heap (h.heap v ?_) j).trans (hc j hj)
    rintro rfl
    obtain ⟨U, y, hF⟩ := (hk 0 (by omega)).shape
    have h0 := hc 0 (by omega)
    simp [World.cell?, h.lies, hF] at h0
    exact h.odd _ _ h0
  | fn h => exact .fn h
  | ref h => exact .ref h
theorem Odd.env (h : Odd rb B m W b T x) (v : Value) {e : PEnv} {g : Value} (hr : EnvIn rb m W e g) : EnvIn rb m (W.setCell ⟨b, 0, none⟩ v) e g := by
  induction hr with
  | nil => exact .nil
  | cons hb hv _ ih => exact .cons (h.at_ v (by decide) hb) (h.rep v hv) ih
theorem Odd.good (h : Odd rb B m W b T x) (v : Value) (hg : Good rb B inp fuel s m W) : Good rb B inp fuel s m (W.setCell ⟨b, 0, none⟩ v) := by
  have hst : Stay B W (W.setCell ⟨b, 0, none⟩ v) := fun c o u hc hu => (cell_of_heap (h.heap v (by have := h.lo; omega)) o).trans hu
  obtain ⟨Ai, ci, hr, hi, hci⟩ := hg.run
  refine ⟨by simpa [World.setCell] using hg.Bs, hg.rbB, hg.left, hg.fuelB, hg.bnd, ⟨Ai, ci, (h.heap v (fun e => h.still (.inl (.inl e.symm)))).trans hr, hi.stay hst, hci⟩, ?_, hg.falen, ?_, hg.calen, ?_, hg.nodup, hg.rbca, hg.rbo, hg.oca, hg.caB, fun k hk => ⟨(hg.priv k hk).1, by simpa [World.setCell] using (hg.priv k hk).2.1, (hg.priv k hk).2.2⟩⟩
  · refine hg.out.kept (row := some b) ⟨rfl, rfl, rfl, by simp [World.setCell], fun i hi hne => h.heap v (fun e => hne (by rw [e]))⟩ ?_
    cases ho : m.vo.ownBlock with
    | none => exact .inl rfl
    | some k => exact .inr fun e => h.still (.inl (.inr (.inl (ho.trans (by simpa using e)))))
  · intro i hi'
    obtain ⟨b', c0, c1, c2, c3, kp, h1, h2, h3, h4, h5⟩ := hg.fns i hi'
    exact ⟨b', c0, c1, c2, c3, kp, h1, h.at_ v (by decide) h2, h3.stay hst, h4, h.env v h5⟩
  · intro i hi'
    obtain ⟨b', gv, h1, h2, h3⟩ := hg.cells i hi'
    refine ⟨b', gv, h1, (h.heap v ?_).trans h2, h.rep v h3⟩
    rintro rfl
    exact h.still (.inl (.inr (.inr (List.mem_of_getElem? h1))))
theorem Odd.other (h : Odd rb B m W b T x) (v : Value) {c : Nat} {U : TypeId} {y : Value} (hc : Odd rb B m W c U y) (hne : c ≠ b) : Odd rb B m (W.setCell ⟨b, 0, none⟩ v) c U y :=
  ⟨(h.heap v hne).trans hc.lies, hc.ty, hc.odd, hc.still, hc.lo⟩
end
/-- a store behind what stood at first -/
theorem Evo.setNew {rb : Nat} {m m' : Mem} {W W' : World} (h : Evo rb m m' W W') {b : Nat} (hb : W.heap.size ≤ b) (o : Nat) (v : Value) : Evo rb m m' W (W'.setCell ⟨b, o, none⟩ v) :=
  ⟨h.os, h.tape, h.output, by simpa [World.setCell] using h.size, fun k hk hm => (Below.heap_setCell W' _ _ k (by show k ≠ b; omega)).trans (h.same k hk hm), h.fresh, h.fa, h.ca, h.priv⟩

/-! ### the deferred closure -/
theorem caught1_idle (a b : Addr) (w : World) :
    CallsD Tryd.prog 86 #[.pointer (some a), .pointer (some b)] .returning w fun e u' w' => e = .returned (.tuple #[]) ∧ u' = .returning ∧ w' = w := by
  refine callsD_of_wpS Tryd.func86 rfl fun c₀ cs hu => ?_
  apply wpS_seq
  apply wpS_region
  simp [wpOpsS, go_sem, recoverD, hu, Tryd.ntmps86, Exit.thenS]
  refine wpS_of_wp ?_
  go_wp2_with fail
  cases c₀
  simp_all [bodyPostS, results, Tryd.results86]

theorem caught1_raised (ab bb : Nat) (T : TypeId) (y : Value) (older : List PanicEntry) (w : World) (ha : w.cell? ⟨ab, 0, none⟩ = some .nilIface) (hb : w.cell? ⟨bb, 0, none⟩ = some (.bool false)) (fa : w.frozen? ⟨ab, 0, none⟩ = false) (fb : w.frozen? ⟨bb, 0, none⟩ = false) (hab : ab ≠ bb) :
    CallsD Tryd.prog 86 #[.pointer (some ⟨ab, 0, none⟩), .pointer (some ⟨bb, 0, none⟩)] (.panicking ({ v := .iface 81 (.agg #[.iface T y]), recovered := false } :: older)) w
      fun e u' w' => e = .returned (.tuple #[]) ∧ u' = .panicking ({ v := .iface 81 (.agg #[.iface T y]), recovered := true } :: older) ∧ w' = ((w.alloc (.cells #[.iface T y] 81)).setCell ⟨ab, 0, none⟩ (.iface T y)).setCell ⟨bb, 0, none⟩ (.bool true) := by
  have hal := World.block_lt_of_cell? _ _ ha
  have hbl := World.block_lt_of_cell? _ _ hb
  have hn := World.new_ne _ _ ha
  have hn' := World.new_ne _ _ hb
  refine callsD_of_wpS Tryd.func86 rfl fun c₀ cs hu => ?_
  apply wpS_seq
  apply wpS_region
  simp [wpOpsS, go_sem, recoverD, hu, Tryd.ntmps86, Exit.thenS]
  refine wpS_of_wp (Code.wp_mono (Q := fun e a w' => e = .normal ∧ a.defers = [] ∧ w' = ((w.alloc (.cells #[.iface T y] 81)).setCell ⟨ab, 0, none⟩ (.iface T y)).setCell ⟨bb, 0, none⟩ (.bool true)) ?_ ?_)
  · rintro e a w' ⟨rfl, h1, rfl⟩
    cases c₀
    simp_all [bodyPostS, results, Tryd.results86]
  simp only [Array.replicate_succ, Array.replicate_zero, List.push_toArray, List.setIfInBounds_toArray, List.set_cons_zero, List.set_cons_succ, List.append_toArray, List.nil_append, List.cons_append]
  clear hu
  go_wp2_with fail

theorem caught1_stop (a b : Addr) (x : Value) (older : List PanicEntry) (w : World) :
    CallsD Tryd.prog 86 #[.pointer (some a), .pointer (some b)] (.panicking ({ v := .iface 79 x, recovered := false } :: older)) w
      fun e u' w' => e = .panicked [{ v := .iface 79 x, recovered := false }] ∧ u' = .panicking ({ v := .iface 79 x, recovered := true } :: older) ∧ w' = w := by
  refine callsD_of_wpS Tryd.func86 rfl fun c₀ cs hu => ?_
  apply wpS_seq
  apply wpS_region
  simp [wpOpsS, go_sem, recoverD, hu, Tryd.ntmps86, Exit.thenS]
  refine wpS_of_wp (Code.wp_mono (Q := fun e a w' => e = .panic [{ v := .iface 79 x, recovered := false }] ∧ a.defers = [] ∧ w' = w) ?_ ?_)
  · rintro e a w' ⟨rfl, h1, rfl⟩
    cases c₀
    simp_all [bodyPostS, results, Tryd.results86]
  simp only [Array.replicate_succ, Array.replicate_zero, List.push_toArray, List.setIfInBounds_toArray, List.set_cons_zero, List.set_cons_succ, List.append_toArray, List.nil_append, List.cons_append]
  clear hu
  go_wp2_with fail

/-- how a call ends that is watched -/
inductive CaughtPost (rb B : Nat) (inp : List Int) (fuel : Nat) (m : Mem) (W : World) : Out → Ending → World → Prop
  | val {v : PV} {s : St} {m' : Mem} {W' : World} {g : Value} (hk : Evo rb m m' W W') (hg : Good rb B inp fuel s m' W') (hv : RepV rb m' W' v g) : CaughtPost rb B inp fuel m W (.val v, s) (.returned (.tuple #[g, .bool false])) W'
  | raised {v : PV} {s : St} {m' : Mem} {W' : World} {g : Value} (hk : Evo rb m m' W W') (hg : Good rb B inp fuel s m' W') (hv : RepV rb m' W' v g) : CaughtPost rb B inp fuel m W (.raised v, s) (.returned (.tuple #[g, .bool true])) W'
  | stuck {s : St} {m' : Mem} {W' : World} {ch : List PanicEntry} (hk : Evo rb m m' W W') (hg : Good rb B inp fuel s m' W') (hth : Thrown 79 (.agg #[.int .i64 4]) ch) : CaughtPost rb B inp fuel m W (.stuck, s) (.panicked ch) W'
  | cut {s : St} {m' : Mem} {W' : World} {ch : List PanicEntry} (hk : Evo rb m m' W W') (hg : Good rb B inp fuel s m' W') (hth : Thrown 79 (.agg #[.int .i64 3]) ch) : CaughtPost rb B inp fuel m W (.cut, s) (.panicked ch) W'

theorem settle_thrown {T : TypeId} {x : Value} {older : List PanicEntry} (h : ∀ p ∈ older, p.goexit = false) : settle (.panicking ({ v := .iface T x, recovered := true } :: older)) = .returning := by
  have : older.dropWhile (!·.goexit) = [] := by
    clear x
    induction older with
    | nil => rfl
    | cons a l ih => rw [List.dropWhile_cons_of_pos (by simp [h a (by simp)])]; exact ih (fun p hp => h p (by simp [hp]))
  simp [settle, this]
theorem Thrown.again {T : TypeId} {x : Value} {older : List PanicEntry} (h : ∀ p ∈ older, p.goexit = false) : Thrown T x ({ v := .iface T x, recovered := false } :: { v := .iface T x, recovered := true } :: older) :=
  ⟨_, rfl, fun p hp => by rcases List.mem_cons.1 hp with rfl | hp; rfl; exact h p hp⟩
theorem at_frozen {rb : Nat} {m : Mem} {W : World} {b : Nat} {cs : Array Value} {t : TypeId} (h : At rb m W b (.cells cs t (0, 0))) (o : Nat) : W.frozen? ⟨b, o, none⟩ = false := by
  simp [World.frozen?, h.1]

set_option maxRecDepth 100000 in
set_option maxHeartbeats 2000000 in
theorem caught_any {rb B : Nat} {inp : List Int} {fuel n : Nat} (hok : TermOk rb B inp fuel n) (f : PV) (s : St) (m : Mem) (W : World) (gf : Value) (hf : RepV rb m W f gf) (hg : Good rb B inp fuel s m W) (hn : s.left < n) :
    Calls Tryd.prog 71 #[.pointer (some ⟨rb, 0, none⟩), gf] W (CaughtPost rb B inp fuel m W (callP (ev inp n) f (.int 0) s)) := by
  obtain ⟨Tf, xf, rfl⟩ := hf.shape
  have hk1 : Evo rb m m W (W.alloc (.cells #[.nilIface] 54)) := Evo.alloc _ _ _ _
  have hg1 := hg.below ((Below.refl _ _).alloc (Nat.le_refl _) (.cells #[.nilIface] 54))
  have hk2 : Evo rb m m (W.alloc (.cells #[.nilIface] 54)) ((W.alloc (.cells #[.nilIface] 54)).alloc (.cells #[.bool false] 4)) := Evo.alloc _ _ _ _
  have hg2 := hg1.below ((Below.refl _ _).alloc (Nat.le_refl _) (.cells #[.bool false] 4))
  have hf2 := (hf.evo hk1).evo hk2
  have a1 := (at_new (fun k hk => hg.apartLt hk) #[.nilIface] 54).evo hk2
  have a2 : At rb m ((W.alloc (.cells #[.nilIface] 54)).alloc (.cells #[.bool false] 4)) (W.heap.size + 1) (.cells #[.bool false] 4) := by
    have := at_new (fun k hk => hg1.apartLt hk) #[.bool false] 4
    simpa using this
  have hBs := hg.Bs
  have HC := Lib.hid ((call_any hok f (.int 0) s m _ _ _ hf2 (.int 0) hg2 hn).mono fun e V h => (show EvPost rb B inp fuel m ((W.alloc (.cells #[.nilIface] 54)).alloc (.cells #[.bool false] 4)) (callP (ev inp n) f (.int 0) s) e V from h))
  generalize callP (ev inp n) f (.int 0) s = o at HC ⊢
  have hW2 : Evo rb m m W ((W.alloc (.cells #[.nilIface] 54)).alloc (.cells #[.bool false] 4)) := hk1.trans hk2
  clear hok hk1 hk2 hg1 hg2 hf hf2
  go_enter_defers Tryd.func71, Tryd.ntmps71
  go_wp2_with fail
  refine HC.out.mono ?_
  have hne : W.heap.size ≠ W.heap.size + 1 := by omega
  have hne' : W.heap.size + 1 ≠ W.heap.size := by omega
  intro e V h
  cases h with
  | @val v s' m' _ g hk hg' hv =>
    have b1 := a1.evo hk
    have b2 := a2.evo hk
    have O1 : Odd rb B m' V W.heap.size 54 .nilIface := ⟨b1.1, .inl rfl, by intros; simp, b1.2, hBs⟩
    have O2 : Odd rb B m' V (W.heap.size + 1) 4 (.bool false) := ⟨b2.1, .inr rfl, by intros; simp, b2.2, by omega⟩
    have c1 := at_cell0 b1 (i := 0) rfl
    have c2 := at_cell0 b2 (i := 0) rfl
    have d1 := at_frozen b1 0
    have d2 := at_frozen b2 0
    obtain ⟨Tg, xg, rfl⟩ := hv.shape
    have HP : CaughtPost rb B inp fuel m W (.val v, s') (.returned (.tuple #[.iface Tg xg, .bool false])) ((V.setCell ⟨W.heap.size, 0, none⟩ (.iface Tg xg)).setCell ⟨W.heap.size + 1, 0, none⟩ (.bool false)) :=
      .val (((hW2.trans hk).setNew (Nat.le_refl _) _ _).setNew (by omega) _ _) ((O1.other _ O2 hne').good _ (O1.good _ hg')) ((O1.other _ O2 hne').rep _ (O1.rep _ hv))
    have HP := Lib.hid HP
    simp only [List.getElem_toArray, List.getElem_cons_zero] at c1 c2
    clear b1 b2 O1 O2 hv hg' hk a1 a2 hW2 hg HC
    go_wp2_with fail
    refine leaves_cons (f := 86) (args := #[.pointer (some ⟨W.heap.size, 0, none⟩), .pointer (some ⟨W.heap.size + 1, 0, none⟩)]) (by simp) (by simp [go_sem]) ?_
    refine (caught1_idle _ _ _).mono ?_
    rintro e u' w'' ⟨rfl, rfl, rfl⟩
    simp [Leaves, settle, results, Tryd.results71, go_sem, *]
    try exact HP.out
  | @raised v s' m' _ g ch hk hg' hv hkey hth =>
    obtain ⟨older, rfl, hold⟩ := hth
    have b1 := a1.evo hk
    have b2 := a2.evo hk
    obtain ⟨Tg, xg, rfl⟩ := hv.shape
    have hal : Evo rb m' m' V (V.alloc (.cells #[.iface Tg xg] 81)) := Evo.alloc _ _ _ _
    have hga := hg'.below ((Below.refl _ _).alloc (Nat.le_refl _) (.cells #[.iface Tg xg] 81))
    have b1' := b1.evo hal
    have b2' := b2.evo hal
    have O1 : Odd rb B m' (V.alloc (.cells #[.iface Tg xg] 81)) W.heap.size 54 .nilIface := ⟨b1'.1, .inl rfl, by intros; simp, b1'.2, hBs⟩
    have O2 : Odd rb B m' (V.alloc (.cells #[.iface Tg xg] 81)) (W.heap.size + 1) 4 (.bool false) := ⟨b2'.1, .inr rfl, by intros; simp, b2'.2, by omega⟩
    have c1 := at_cell0 b1 (i := 0) rfl
    have c2 := at_cell0 b2 (i := 0) rfl
    have d1 := at_frozen b1 0
    have d2 := at_frozen b2 0
    have HP : CaughtPost rb B inp fuel m W (.raised v, s') (.returned (.tuple #[.iface Tg xg, .bool true])) (((V.alloc (.cells #[.iface Tg xg] 81)).setCell ⟨W.heap.size, 0, none⟩ (.iface Tg xg)).setCell ⟨W.heap.size + 1, 0, none⟩ (.bool true)) :=
      .raised ((((hW2.trans hk).trans hal).setNew (Nat.le_refl _) _ _).setNew (by omega) _ _) ((O1.other _ O2 hne').good _ (O1.good _ hga)) ((O1.other _ O2 hne').rep _ (O1.rep _ (hv.evo hal)))
    have HP := Lib.hid HP
    have l1 := World.block_lt_of_cell? _ _ c1
    have l2 := World.block_lt_of_cell? _ _ c2
    simp only [List.getElem_toArray, List.getElem_cons_zero] at c1 c2
    refine leaves_cons (f := 86) (args := #[.pointer (some ⟨W.heap.size, 0, none⟩), .pointer (some ⟨W.heap.size + 1, 0, none⟩)]) (by simp) (by simp [go_sem]) ?_
    refine (caught1_raised _ _ _ _ _ _ c1 c2 d1 d2 hne).mono ?_
    rintro e u' w'' ⟨rfl, rfl, rfl⟩
    show Leaves _ _ _ _ [] (settle _) _
    rw [settle_thrown hold]
    have k1 : (((V.alloc (.cells #[.iface Tg xg] 81)).setCell ⟨W.heap.size, 0, none⟩ (.iface Tg xg)).setCell ⟨W.heap.size + 1, 0, none⟩ (.bool true)).cell? ⟨W.heap.size, 0, none⟩ = some (.iface Tg xg) := by
      rw [World.cell?_setCell_far _ _ _ _ (by simp), World.cell?_setCell_same' _ _ _ (by rw [World.cell?_alloc_lt _ _ _ l1, c1]; rfl)]
    have k2 : (((V.alloc (.cells #[.iface Tg xg] 81)).setCell ⟨W.heap.size, 0, none⟩ (.iface Tg xg)).setCell ⟨W.heap.size + 1, 0, none⟩ (.bool true)).cell? ⟨W.heap.size + 1, 0, none⟩ = some (.bool true) := by
      rw [World.cell?_setCell_same' _ _ _ (by rw [World.cell?_setCell_far _ _ _ _ (by simp), World.cell?_alloc_lt _ _ _ l2, c2]; rfl)]
    simp [Leaves, results, Tryd.results71, go_sem, k1, k2]
    exact HP.out
  | @stuck s' m' _ ch hk hg' hth =>
    obtain ⟨older, rfl, hold⟩ := hth
    refine leaves_cons (f := 86) (args := #[.pointer (some ⟨W.heap.size, 0, none⟩), .pointer (some ⟨W.heap.size + 1, 0, none⟩)]) (by simp) (by simp [go_sem]) ?_
    refine (caught1_stop _ _ _ _ _).mono ?_
    rintro e u' w'' ⟨rfl, rfl, rfl⟩
    exact CaughtPost.stuck (hW2.trans hk) hg' (Thrown.again hold)
  | @cut s' m' _ ch hk hg' hth =>
    obtain ⟨older, rfl, hold⟩ := hth
    refine leaves_cons (f := 86) (args := #[.pointer (some ⟨W.heap.size, 0, none⟩), .pointer (some ⟨W.heap.size + 1, 0, none⟩)]) (by simp) (by simp [go_sem]) ?_
    refine (caught1_stop _ _ _ _ _).mono ?_
    rintro e u' w'' ⟨rfl, rfl, rfl⟩
    exact CaughtPost.cut (hW2.trans hk) hg' (Thrown.again hold)
end Go.Proofs.YtnolhcdfknjncaaDoor

/-
  The program's evaluator: how the run's state is turned: a cell more, a cell set, an int printed, an int read.
-/
set_option linter.unusedVariables false
set_option linter.unusedSimpArgs false
namespace Go.Proofs.YtnolhcdfknjncaaDoor
open Go.RowKit

section
variable {rb B : Nat} {inp : List Int} {fuel : Nat} {s : St} {m m' : Mem} {W W' : World}
theorem Good.fnsEvo (hg : Good rb B inp fuel s m W) (hk : Evo rb m m' W W') : ∀ i (h : i < s.fns.length), ∃ b c0 c1 c2 c3 kp, m'.fa[i]? = some b ∧ At rb m' W' b (.cells #[.int .i64 s.fns[i].param, c0, c1, c2, c3, kp] 90 (0, 0)) ∧ CoreIn B W' s.fns[i].body #[c0, c1, c2, c3] ∧ WT s.fns[i].body ∧ EnvIn rb m' W' s.fns[i].env kp := fun i hi => by
  obtain ⟨b, c0, c1, c2, c3, kp, h1, h2, h3, h4, h5⟩ := hg.fns i hi
  exact ⟨b, c0, c1, c2, c3, kp, prefix_get hk.fa h1, h2.evo hk, h3.stay (hg.stay hk), h4, h5.evo hk⟩

theorem heap_set_self {b : Nat} {cs : Array Value} {T : TypeId} {fr : Nat × Nat} (h : W.heap[b]? = some (.cells cs T fr)) (o : Nat) (v : Value) : (W.setCell ⟨b, o, none⟩ v).heap[b]? = some (.cells (cs.setIfInBounds o v) T fr) := by
  simp [World.setCell, Array.getElem?_modify, h]
theorem heap_set_ne {b k : Nat} (h : k ≠ b) (o : Nat) (v : Value) : (W.setCell ⟨b, o, none⟩ v).heap[k]? = W.heap[k]? := Below.heap_setCell W _ _ k h

/-- a cell more -/
theorem Good.addCell (hg : Good rb B inp fuel s m W) {a : PV} {ga : Value} (ha : RepV rb m W a ga) :
    Good rb B inp fuel { s with cells := s.cells ++ [a] } { m with ca := m.ca ++ [W.heap.size] } (W.alloc (.cells #[ga] 127)) ∧ Evo rb m { m with ca := m.ca ++ [W.heap.size] } W (W.alloc (.cells #[ga] 127)) ∧
      RepV rb { m with ca := m.ca ++ [W.heap.size] } (W.alloc (.cells #[ga] 127)) (.ref s.cells.length) (.iface 126 (.pointer (some ⟨W.heap.size, 0, none⟩))) := by
  have hk : Evo rb m { m with ca := m.ca ++ [W.heap.size] } W (W.alloc (.cells #[ga] 127)) :=
    (Evo.alloc rb m W _).more (List.prefix_refl _) (List.prefix_append _ _) (fun k h => by
      rcases h with rfl | h | h
      · exact .inl (.inl rfl)
      · exact .inl (.inr (.inl h))
      · rcases List.mem_append.1 h with h | h
        · exact .inl (.inr (.inr h))
        · simp at h; exact .inr (by omega))
  have hgb := hg.below ((Below.refl W.heap.size W).alloc (Nat.le_refl _) (.cells #[ga] 127))
  have hrbl := hg.mutLt (k := rb) (.inl rfl)
  refine ⟨⟨hgb.Bs, hg.rbB, hg.left, hg.fuelB, hg.bnd, hgb.run, hgb.out, hg.falen, hg.fnsEvo hk, ?_, ?_, ?_, ?_, hg.rbo, ?_, ?_, hg.privEvo hk⟩, hk, .ref ?_⟩
  · simp [hg.calen]
  · intro i hi
    by_cases h : i < s.cells.length
    · obtain ⟨b, gv, h1, h2, h3⟩ := hg.cells i h
      refine ⟨b, gv, prefix_get hk.ca h1, ?_, ?_⟩
      · exact (((Below.refl W.heap.size W).alloc (Nat.le_refl _) (.cells #[ga] 127)).block b (Array.getElem?_eq_some_iff.1 h2).1).trans h2
      · simpa [List.getElem_append_left h] using h3.evo hk
    · have : i = s.cells.length := by simp at hi; omega
      subst this
      refine ⟨W.heap.size, ga, ?_, World.alloc_heap_new W _, ?_⟩
      · show (m.ca ++ [W.heap.size])[s.cells.length]? = _
        rw [← hg.calen, List.getElem?_append_right (Nat.le_refl _)]; simp
      · simpa using ha.evo hk
  · show (m.ca ++ [W.heap.size]).Nodup
    rw [List.nodup_append]
    exact ⟨hg.nodup, by simp, fun x hx y hy => by have := hg.mutLt (k := x) (.inr (.inr hx)); simp at hy; omega⟩
  · intro h
    rcases List.mem_append.1 h with h | h
    · exact hg.rbca h
    · simp at h; omega
  · intro b h
    rcases List.mem_append.1 h with h | h
    · exact hg.oca b h
    · simp at h; subst h
      intro ho
      exact absurd (hg.out.lt _ ho).2 (Nat.lt_irrefl _)
  · intro b h
    rcases List.mem_append.1 h with h | h
    · exact hg.caB b h
    · simp at h; subst h; exact hg.Bs
  · show (m.ca ++ [W.heap.size])[s.cells.length]? = _
    rw [← hg.calen, List.getElem?_append_right (Nat.le_refl _)]; simp

/-- a cell is set -/
theorem Good.setRef (hg : Good rb B inp fuel s m W) {i b : Nat} (hb : m.ca[i]? = some b) {a : PV} {ga : Value} (ha : RepV rb m W a ga) :
    Good rb B inp fuel { s with cells := s.cells.set i a } m (W.setCell ⟨b, 0, none⟩ ga) ∧ Evo rb m m W (W.setCell ⟨b, 0, none⟩ ga) := by
  have hbm : b ∈ m.ca := List.mem_of_getElem? hb
  have hk : Evo rb m m W (W.setCell ⟨b, 0, none⟩ ga) := Evo.setCell W 0 ga (.inr (.inr hbm))
  have hst := hg.stay hk
  have hne : ∀ k, k ≠ b → (W.setCell ⟨b, 0, none⟩ ga).heap[k]? = W.heap[k]? := fun k h => Below.heap_setCell W _ _ k h
  obtain ⟨Ai, ci, hr, hi, hci⟩ := hg.run
  refine ⟨⟨by simpa [World.setCell] using hg.Bs, hg.rbB, hg.left, hg.fuelB, hg.bnd, ⟨Ai, ci, (hne rb (fun e => hg.rbca (e ▸ hbm))).trans hr, hi.stay hst, hci⟩, ?_, hg.falen, hg.fnsEvo hk, by simp [hg.calen], ?_, hg.nodup, hg.rbca, hg.rbo, hg.oca, hg.caB, hg.privEvo hk⟩, hk⟩
  · refine hg.out.kept (row := some b) ⟨rfl, rfl, rfl, by simp [World.setCell], fun i hi h => hne i (fun e => h (by rw [e]))⟩ ?_
    exact .inr (hg.oca b hbm)
  · intro j hj
    have hj' : j < s.cells.length := by simpa using hj
    obtain ⟨b', gv, h1, h2, h3⟩ := hg.cells j hj'
    by_cases hji : j = i
    · subst hji
      rw [hb] at h1; cases h1
      refine ⟨b, ga, hb, ?_, by simpa using ha.evo hk⟩
      exact heap_set_self h2 0 ga
    · refine ⟨b', gv, h1, (hne b' ?_).trans h2, ?_⟩
      · rintro rfl
        have hjl : j < m.ca.length := (List.getElem?_eq_some_iff.1 h1).1
        have hil : i < m.ca.length := (List.getElem?_eq_some_iff.1 hb).1
        have hp := List.pairwise_iff_getElem.1 hg.nodup
        rw [List.getElem?_eq_getElem hjl] at h1
        rw [List.getElem?_eq_getElem hil] at hb
        simp only [Option.some.injEq] at h1 hb
        rcases Nat.lt_or_gt_of_ne hji with h | h
        · exact hp j i hjl hil h (h1.trans hb.symm)
        · exact hp i j hil hjl h (hb.trans h1.symm)
      · have : (s.cells.set i a)[j] = s.cells[j] := by simp [List.getElem_set, Ne.symm hji]
        simpa [this] using h3.evo hk

theorem Good.neRb (hg : Good rb B inp fuel s m W) {b : Nat} (hb : b ∈ m.ca) : b ≠ rb := fun e => hg.rbca (e ▸ hb)
/-- the run's own record is turned, functions and cells are as they were -/
theorem Good.turn {s' : St} (hg : Good rb B inp fuel s m W) (hk : Evo rb m m' W W') (hfns : s'.fns = s.fns) (hcells : s'.cells = s.cells) (hfa : m'.fa = m.fa) (hca : m'.ca = m.ca) (hcb : ∀ b ∈ m.ca, W'.heap[b]? = W.heap[b]?)
    (hleft : s'.left ≤ fuel) (hbnd : s'.out.length + s'.left ≤ fuel)
    (hrun : ∃ Ai ci, W'.heap[rb]? = some (.cells #[.slice Ai (inp.drop s'.asked).length ci, .int .i64 fuel, .int .i64 0, .int .i64 0, m'.vo, .int .i64 ((fuel : Int) - s'.left)] 51 (0, 0)) ∧ IntsIn B W' Ai (inp.drop s'.asked) ∧ (inp.drop s'.asked).length ≤ ci)
    (hout : W'.ownsRow B 3 1 m'.vo s'.out.length (s'.out.map (Value.int .i64))) (hrbo : m'.vo.ownBlock ≠ some rb) (hoca : ∀ b ∈ m.ca, m'.vo.ownBlock ≠ some b) : Good rb B inp fuel s' m' W' := by
  refine ⟨Nat.le_trans hg.Bs hk.size, hg.rbB, hleft, hg.fuelB, hbnd, hrun, hout, by rw [hfa, hfns]; exact hg.falen, ?_, by rw [hca, hcells]; exact hg.calen, ?_, by rw [hca]; exact hg.nodup, by rw [hca]; exact hg.rbca, hrbo, by rw [hca]; exact hoca, by rw [hca]; exact hg.caB, hg.privEvo hk⟩
  · rw [hfns]; exact hg.fnsEvo hk
  · rw [hcells]
    intro i hi
    obtain ⟨b, gv, h1, h2, h3⟩ := hg.cells i hi
    exact ⟨b, gv, prefix_get hk.ca h1, (hcb b (List.mem_of_getElem? h1)).trans h2, h3.evo hk⟩

/-- a step is taken -/
theorem Good.step (hg : Good rb B inp fuel s m W) (hl : 0 < s.left) : Good rb B inp fuel { s with left := s.left - 1 } m (W.setCell ⟨rb, 5, none⟩ (.int .i64 ((fuel : Int) - s.left + 1))) ∧ Evo rb m m W (W.setCell ⟨rb, 5, none⟩ (.int .i64 ((fuel : Int) - s.left + 1))) := by
  have hk : Evo rb m m W (W.setCell ⟨rb, 5, none⟩ (.int .i64 ((fuel : Int) - s.left + 1))) := Evo.setCell W 5 _ (.inl rfl)
  obtain ⟨Ai, ci, hr, hi, hci⟩ := hg.run
  refine ⟨hg.turn hk rfl rfl rfl rfl (fun b hb => heap_set_ne (hg.neRb hb) _ _) (by have := hg.left; show s.left - 1 ≤ fuel; omega) (by have := hg.bnd; show s.out.length + (s.left - 1) ≤ fuel; omega) ⟨Ai, ci, ?_, hi.stay (hg.stay hk), hci⟩ ?_ hg.rbo hg.oca, hk⟩
  · rw [heap_set_self hr]
    have : ((s.left - 1 : Nat) : Int) = s.left - 1 := by omega
    simp [this]
    omega
  · exact hg.out.kept (row := some rb) ⟨rfl, rfl, rfl, by simp [World.setCell], fun i hi h => heap_set_ne (fun e => h (by rw [e])) _ _⟩ (.inr hg.rbo)

/-- an int is read -/
theorem Good.read (hg : Good rb B inp fuel s m W) {Ai : Option Addr} {ci : Nat} (hi : IntsIn B W Ai (inp.drop (s.asked + 1))) (hci : (inp.drop (s.asked + 1)).length ≤ ci) :
    Good rb B inp fuel { s with asked := s.asked + 1 } m (W.setCell ⟨rb, 0, none⟩ (.slice Ai (inp.drop (s.asked + 1)).length ci)) ∧ Evo rb m m W (W.setCell ⟨rb, 0, none⟩ (.slice Ai (inp.drop (s.asked + 1)).length ci)) := by
  have hk : Evo rb m m W (W.setCell ⟨rb, 0, none⟩ (.slice Ai (inp.drop (s.asked + 1)).length ci)) := Evo.setCell W 0 _ (.inl rfl)
  obtain ⟨Ai', ci', hr, hi', hci'⟩ := hg.run
  refine ⟨hg.turn hk rfl rfl rfl rfl (fun b hb => heap_set_ne (hg.neRb hb) _ _) hg.left hg.bnd ⟨Ai, ci, ?_, hi.stay (hg.stay hk), hci⟩ ?_ hg.rbo hg.oca, hk⟩
  · rw [heap_set_self hr]
    simp
  · exact hg.out.kept (row := some rb) ⟨rfl, rfl, rfl, by simp [World.setCell], fun i hi h => heap_set_ne (fun e => h (by rw [e])) _ _⟩ (.inr hg.rbo)

/-- more was asked for than there is: nothing turns -/
theorem Good.past (hg : Good rb B inp fuel s m W) (hp : inp.length ≤ s.asked) : Good rb B inp fuel { s with asked := s.asked + 1 } m W := by
  obtain ⟨Ai, ci, hr, hi, hci⟩ := hg.run
  have h1 : inp.drop s.asked = [] := List.drop_eq_nil_iff.2 hp
  have h2 : inp.drop (s.asked + 1) = [] := List.drop_eq_nil_iff.2 (by omega)
  refine hg.turn (Evo.refl _ _ _) rfl rfl rfl rfl (fun _ _ => rfl) hg.left hg.bnd ⟨Ai, ci, ?_, ?_, ?_⟩ hg.out hg.rbo hg.oca
  · rw [hr, h1, h2]
  · rw [h2, ← h1]; exact hi
  · rw [h2]; simp

/-- an int is printed -/
theorem Good.print (hg : Good rb B inp fuel s m W) (hs : s.out.length + s.left < fuel) {W2 w1 : World} (hb2 : Below W.heap.size W W2) {n : Int} {v' : Value} (h1 : w1.ownsRow B 3 1 v' (s.out.length + 1) (s.out.map (Value.int .i64) ++ [.int .i64 n]))
    (h2 : W2.grownBy w1 m.vo.ownBlock) (hat : v'.ownBlock = m.vo.ownBlock ∨ v'.ownBlock = some W2.heap.size) :
    Good rb B inp fuel { s with out := s.out ++ [n] } { m with vo := v' } (w1.setCell ⟨rb, 4, none⟩ v') ∧ Evo rb m { m with vo := v' } W (w1.setCell ⟨rb, 4, none⟩ v') := by
  have hsz := hb2.size
  have hrbl := hg.mutLt (k := rb) (.inl rfl)
  have hk : Evo rb m { m with vo := v' } W (w1.setCell ⟨rb, 4, none⟩ v') := by
    refine ⟨h2.os.trans hb2.os, h2.tape.trans hb2.tape, h2.output.trans hb2.output, ?_, ?_, ?_, List.prefix_refl _, List.prefix_refl _, rfl⟩
    · have := h2.size; simp [World.setCell]; omega
    · intro k hk hm
      rw [heap_set_ne (fun e => hm (.inl e))]
      exact (h2.block k (by omega) (fun e => hm (.inr (.inl e.symm)))).trans (hb2.block k hk)
    · intro k hk
      rcases hk with rfl | hk | hk
      · exact .inl (.inl rfl)
      · rcases hat with h | h
        · exact .inl (.inr (.inl (h ▸ hk)))
        · have := h.symm.trans hk; simp at this; exact .inr (by omega)
      · exact .inl (.inr (.inr hk))
  have hrb' : v'.ownBlock ≠ some rb := by
    rcases hat with h | h
    · rw [h]; exact hg.rbo
    · rw [h]; simp; omega
  obtain ⟨Ai, ci, hr, hi, hci⟩ := hg.run
  refine ⟨hg.turn hk rfl rfl rfl rfl ?_ hg.left ?_ ⟨Ai, ci, ?_, hi.stay (hg.stay hk), hci⟩ ?_ hrb' ?_, hk⟩
  · intro b hb
    have hbl := hg.mutLt (k := b) (.inr (.inr hb))
    rw [heap_set_ne (hg.neRb hb)]
    exact (h2.block b (by omega) (fun e => hg.oca b hb e.symm)).trans (hb2.block b hbl)
  · show (s.out ++ [n]).length + s.left ≤ fuel
    simp; omega
  · have : w1.heap[rb]? = _ := (h2.block rb (by omega) (fun e => hg.rbo e.symm)).trans ((hb2.block rb hrbl).trans hr)
    rw [heap_set_self this]
    simp
  · have := h1.kept (w' := w1.setCell ⟨rb, 4, none⟩ v') (row := some rb) ⟨rfl, rfl, rfl, by simp [World.setCell], fun i hi h => heap_set_ne (fun e => h (by rw [e])) _ _⟩ (.inr hrb')
    simpa using this
  · intro b hb
    have hbl := hg.mutLt (k := b) (.inr (.inr hb))
    rcases hat with h | h
    · rw [h]; exact hg.oca b hb
    · rw [h]; simp; omega
end

section
variable {P : Program} (w : World)
theorem wp_append_at {o : Oper} {a : Act} {K : Act → World → Prop} {Q : Exit → Act → World → Prop} (s x : Operand) (t : TypeId)
    (ho : o.op = .call { callee := .builtin .append, args := #[s, x], argTypes := #[t, t] })
    (base : Nat) (e : TypeId) (i : TypeInfo) (z : Value) (size bytes : Nat) (ht : P.underlying t = some (.slice e)) (hi : P.info? e = some i) (hz : i.zero = some z)
    (hsize : i.size = size) (hby : i.bytes = bytes) (hzs : z.cells.size = size) (hsz : 0 < size)
    (v : Value) (n : Nat) (xs : List Value) (hs : a.eval s = v) (hown : w.ownsRow base e size v n xs)
    (ad : Addr) (m c : Nat) (news : List Value) (hx : a.eval x = .slice (some ad) m c) (hl : news.length = m * size) (hnews : ∀ j u, news[j]? = some u → w.cell? (ad.add j) = some u) (h1 : ∀ u ∈ news, u.oneCell' = true)
    (h63 : n + m ≤ maxLen) (hbytes : (n + m) * bytes ≤ 140737488355328) (hbase : base ≤ w.heap.size)
    (h : ∀ v' w', w'.ownsRow base e size v' (n + m) (xs ++ news) → w.grownBy w' v.ownBlock → (v'.ownBlock = v.ownBlock ∨ v'.ownBlock = some w.heap.size) → K (a.put o.dst v') w') : o.wp P a w K Q := by
  obtain ⟨v', w', hr, h2, h3, _, h4⟩ := run_append_own_at (P := P) w base t o.type e i z size bytes ht hi hz hsize hby hzs hsz v n xs hown ad m c news hl hnews h1 h63 hbytes hbase
  unfold Oper.wp execOp
  simp only [ho, resolve, invoke, builtin, Sem.run_bind, Sem.run_pure, Result.andThen_ok, List.map_toArray, List.map_cons, List.map_nil, hs, hx, hr]
  exact h v' w' h2 h3 h4
end
end Go.Proofs.YtnolhcdfknjncaaDoor

/-
  The program's evaluator: primitives.
-/
set_option linter.unusedVariables false
set_option linter.unusedSimpArgs false
namespace Go.Proofs.YtnolhcdfknjncaaDoor
open Go.RowKit

section
variable {rb B : Nat} {inp : List Int} {fuel n : Nat} {s : St} {m : Mem} {W : World}

theorem prim_ref (hg : Good rb B inp fuel s m W) {a : PV} {T : TypeId} {x : Value} (ha : RepV rb m W a (.iface T x)) {g cap : Nat} (c0 : W.cell? ⟨g, 0, none⟩ = some (.iface T x)) :
    Calls Tryd.prog 43 #[.pointer (some ⟨rb, 0, none⟩), .int .i64 10, .slice (some ⟨g, 0, none⟩) 1 cap] W (EvPost rb B inp fuel m W (.val (.ref s.cells.length), { s with cells := s.cells ++ [a] })) := by
  obtain ⟨h1, h2, h3⟩ := hg.addCell ha
  have HP := Lib.hid (EvPost.val h2 h1 h3)
  clear h1 h2 h3 hg ha
  go_enter Tryd.func43, Tryd.ntmps43
  go_wp2_with fail
  go_ret
  exact HP.out

theorem prim_get_ref (hg : Good rb B inp fuel s m W) {i b : Nat} (hb : m.ca[i]? = some b) {g cap : Nat} (c0 : W.cell? ⟨g, 0, none⟩ = some (.iface 126 (.pointer (some ⟨b, 0, none⟩)))) :
    Calls Tryd.prog 43 #[.pointer (some ⟨rb, 0, none⟩), .int .i64 11, .slice (some ⟨g, 0, none⟩) 1 cap] W (EvPost rb B inp fuel m W (.val (s.cells[i]?.getD default), s)) := by
  have hi : i < s.cells.length := by rw [← hg.calen]; exact (List.getElem?_eq_some_iff.1 hb).1
  obtain ⟨b', gv, h1, h2, h3⟩ := hg.cells i hi
  rw [hb] at h1; cases h1
  obtain ⟨Tv, xv, rfl⟩ := h3.shape
  have cb : W.cell? ⟨b, 0, none⟩ = some (.iface Tv xv) := by simp [World.cell?, h2]
  have hv : s.cells[i]?.getD default = s.cells[i] := by simp [hi]
  rw [hv]
  have HP := Lib.hid (EvPost.val (Evo.refl _ _ _) hg h3)
  clear hv h2 h3 hg hb
  go_enter Tryd.func43, Tryd.ntmps43
  go_wp2_with fail
  go_ret
  exact HP.out

theorem prim_cell_other {p : Int} {k : Nat} (hp : (p = 11 ∧ k = 1) ∨ (p = 12 ∧ k = 2)) (T : TypeId) (hT : T = 87 ∨ T = 95 ∨ T = 88) (x : Value) {g cap : Nat} (c0 : W.cell? ⟨g, 0, none⟩ = some (.iface T x)) (r : Value) :
    Calls Tryd.prog 43 #[r, .int .i64 p, .slice (some ⟨g, 0, none⟩) k cap] W fun e w' => e = .panicked (stopV 4) ∧ W = w' := by
  rcases hp with ⟨rfl, rfl⟩ | ⟨rfl, rfl⟩
  all_goals
    rcases hT with rfl | rfl | rfl
    all_goals
      go_enter Tryd.func43, Tryd.ntmps43
      go_wp2_with (go_at_call 40; refine (stuck_any _).mono ?_; rintro e w' ⟨rfl, rfl⟩)
      exact ⟨rfl, rfl, rfl⟩

theorem prim_set_ref (hg : Good rb B inp fuel s m W) {i b : Nat} (hb : m.ca[i]? = some b) {a : PV} {T : TypeId} {x : Value} (ha : RepV rb m W a (.iface T x)) {g cap : Nat} (c0 : W.cell? ⟨g, 0, none⟩ = some (.iface 126 (.pointer (some ⟨b, 0, none⟩)))) (c1 : W.cell? ⟨g, 1, none⟩ = some (.iface T x)) :
    Calls Tryd.prog 43 #[.pointer (some ⟨rb, 0, none⟩), .int .i64 12, .slice (some ⟨g, 0, none⟩) 2 cap] W (EvPost rb B inp fuel m W (.val (.int 0), { s with cells := s.cells.set i a })) := by
  have hi : i < s.cells.length := by rw [← hg.calen]; exact (List.getElem?_eq_some_iff.1 hb).1
  obtain ⟨b', gv, h1, h2, h3⟩ := hg.cells i hi
  rw [hb] at h1; cases h1
  have cb : W.cell? ⟨b, 0, none⟩ = some gv := by simp [World.cell?, h2]
  have fb : W.frozen? ⟨b, 0, none⟩ = false := by simp [World.frozen?, h2]
  obtain ⟨q1, q2⟩ := hg.setRef hb ha
  have HP := Lib.hid (EvPost.val q2 q1 (.int 0))
  clear h2 h3 hg hb q1 q2 ha
  go_enter Tryd.func43, Tryd.ntmps43
  go_wp2_with fail
  go_ret
  exact HP.out

theorem prim_read_none (hg : Good rb B inp fuel s m W) (hp : inp.length ≤ s.asked) (v : Value) :
    Calls Tryd.prog 43 #[.pointer (some ⟨rb, 0, none⟩), .int .i64 14, v] W (EvPost rb B inp fuel m W (.raised (.int 1), { s with asked := s.asked + 1 })) := by
  have hg' := hg.past hp
  obtain ⟨Ai, ci, hr, hi, hci⟩ := hg.run
  have h1 : inp.drop s.asked = [] := List.drop_eq_nil_iff.2 hp
  have cb : W.cell? ⟨rb, 0, none⟩ = some (.slice Ai 0 ci) := by simp [World.cell?, hr, h1]
  have HP := Lib.hid (EvPost.raised (Evo.refl rb m W) hg' (.int 1) ⟨1, rfl⟩ (thrown_one _ _))
  clear hg hg' hr hi hci h1
  go_enter Tryd.func43, Tryd.ntmps43
  go_wp2_with fail
  exact ⟨rfl, HP.out⟩

theorem prim_read_some (hg : Good rb B inp fuel s m W) (hp : s.asked < inp.length) (v : Value) :
    Calls Tryd.prog 43 #[.pointer (some ⟨rb, 0, none⟩), .int .i64 14, v] W (EvPost rb B inp fuel m W (.val (.int (wrap31 (nth inp s.asked))), { s with asked := s.asked + 1 })) := by
  obtain ⟨Ai, ci, hr, hi, hci⟩ := hg.run
  have hdrop : inp.drop s.asked = nth inp s.asked :: inp.drop (s.asked + 1) := by
    rw [nth_eq _ hp]; exact List.drop_eq_getElem_cons hp
  have hfb : W.frozen? ⟨rb, 0, none⟩ = false := by simp [World.frozen?, hr]
  have hlen : (inp.drop s.asked).length = (inp.drop (s.asked + 1)).length + 1 := by rw [hdrop]; rfl
  obtain ⟨b, o, rfl, hlt, hc⟩ := hi.at_ (by omega)
  have cb : W.cell? ⟨rb, 0, none⟩ = some (.slice (some ⟨b, o, none⟩) ((inp.drop (s.asked + 1)).length + 1) ci) := by simp [World.cell?, hr, hlen]
  have c0 : W.cell? ⟨b, o, none⟩ = some (.int .i64 (nth inp s.asked)) := by
    have := hc 0 (by omega)
    rw [hdrop] at this
    simpa [nth] using this
  have h64 := hi.1
  have hci' : (inp.drop (s.asked + 1)).length + 1 ≤ ci := by omega
  have hL : (inp.drop (s.asked + 1)).length * 8 ≤ 140737488351232 := by omega
  have hc' : ∀ j, j < (inp.drop (s.asked + 1)).length → W.cell? ⟨b, o + 1 + j, none⟩ = some (.int .i64 (nth (inp.drop (s.asked + 1)) j)) := fun j hj => by
    have := hc (j + 1) (by omega)
    rw [hdrop] at this
    rw [show o + 1 + j = o + (j + 1) by omega, this]
    simp [nth]
  have HP := Lib.hid (fun (A' : Option Addr) (c' : Nat) (hA : 0 < (inp.drop (s.asked + 1)).length → A' = some ⟨b, o + 1, none⟩) (hcc : (inp.drop (s.asked + 1)).length ≤ c') =>
    (show EvPost rb B inp fuel m W (.val (.int (wrap31 (nth inp s.asked))), { s with asked := s.asked + 1 }) (.returned (.iface 87 (.int .i64 (wrap31 (nth inp s.asked))))) (W.setCell ⟨rb, 0, none⟩ (.slice A' (inp.drop (s.asked + 1)).length c')) from by
      obtain ⟨q1, q2⟩ := hg.read (Ai := A') (ci := c') (⟨hL, by
        by_cases h0 : inp.drop (s.asked + 1) = []
        · exact .inl h0
        · have := List.length_pos_iff.2 h0
          exact .inr ⟨b, o + 1, hA this, hlt, hc'⟩⟩) hcc
      exact .val q2 q1 (.int _)))
  generalize (inp.drop (s.asked + 1)).length = L at *
  generalize EvPost rb B inp fuel m W (.val (.int (wrap31 (nth inp s.asked))), { s with asked := s.asked + 1 }) = PP at *
  generalize nth inp s.asked = z at *
  have hL0 : ((L : Int) + 1 == 0) = false := by simp; omega
  have hL1 : (1 : Int) ≤ (L : Int) + 1 := by omega
  have hL2 : (L : Int) + 1 ≤ (ci : Int) := by omega
  have hL3 : (0 : Int) < (L : Int) + 1 := by omega
  clear hg hp hr hi hc hc' hdrop hlen hci h64
  go_enter Tryd.func43, Tryd.ntmps43
  go_wp2_with (go_at_call 70; refine (wrap_any _ _).mono ?_; rintro e w' ⟨rfl, rfl⟩)
  all_goals exact HP.out _ _ (by intro h; first | rfl | omega) (by omega)

theorem numOf_some {a : PV} {k : Int} (h : numOf a = some k) : a = .int k := by
  cases a <;> simp [numOf] at h; rw [h]

theorem prim_raise (hg : Good rb B inp fuel s m W) {a : PV} {T : TypeId} {x : Value} (ha : RepV rb m W a (.iface T x)) {g cap : Nat} (c0 : W.cell? ⟨g, 0, none⟩ = some (.iface T x)) :
    Calls Tryd.prog 43 #[.pointer (some ⟨rb, 0, none⟩), .int .i64 15, .slice (some ⟨g, 0, none⟩) 1 cap] W (EvPost rb B inp fuel m W (match keyOf a with | some _ => (.raised a, s) | none => (.stuck, s))) := by
  cases hk : keyOf a with
  | some k =>
    have HK := Lib.hid ((key_any ha).mono (R' := fun e w' => e = .returned (.int .i64 k) ∧ W = w') (by
      rintro e w' (⟨n, hn, rfl, rfl⟩ | ⟨hn, rfl, rfl⟩)
      · rw [hk] at hn; cases hn; exact ⟨rfl, rfl⟩
      · rw [hk] at hn; cases hn))
    have HP := Lib.hid (EvPost.raised (Evo.refl rb m W) hg ha ⟨k, hk⟩ (thrown_one _ _))
    clear hg ha hk
    go_enter Tryd.func43, Tryd.ntmps43
    go_wp2_with (go_at_call 37; refine HK.out.mono ?_; rintro e w' ⟨rfl, rfl⟩)
    exact ⟨rfl, HP.out⟩
  | none =>
    have HK := Lib.hid ((key_any ha).mono (R' := fun e w' => e = .panicked (stopV 4) ∧ W = w') (by
      rintro e w' (⟨n, hn, rfl, rfl⟩ | ⟨hn, rfl, rfl⟩)
      · rw [hk] at hn; cases hn
      · exact ⟨rfl, rfl⟩))
    have HP := Lib.hid (EvPost.stuck (Evo.refl rb m W) hg (thrown_one _ _))
    clear hg ha hk
    go_enter Tryd.func43, Tryd.ntmps43
    go_wp2_with (go_at_call 37; refine HK.out.mono ?_; rintro e w' ⟨rfl, rfl⟩)
    exact ⟨rfl, HP.out⟩

end
end Go.Proofs.YtnolhcdfknjncaaDoor

/-
  The program's evaluator: primitives on two ints; print; try.
-/
set_option linter.unusedVariables false
set_option linter.unusedSimpArgs false
namespace Go.Proofs.YtnolhcdfknjncaaDoor
open Go.RowKit

section
variable {rb B : Nat} {inp : List Int} {fuel n : Nat} {s : St} {m : Mem} {W : World}

def arithP (p : Int) (a b : PV) (s : St) : Out :=
  match numOf a, numOf b with
  | some x, some y => (match doP p x y with | some n => (.val (.int n), s) | none => (.raised (.int 0), s))
  | _, _ => (.stuck, s)

set_option maxRecDepth 100000 in
set_option maxHeartbeats 2000000 in
theorem prim_arith (hg : Good rb B inp fuel s m W) {p : Int} (hp1 : 1 ≤ p) (hp9 : p ≤ 9) {a b : PV} {T U : TypeId} {x y : Value} (ha : RepV rb m W a (.iface T x)) (hb : RepV rb m W b (.iface U y)) {g cap : Nat} (c0 : W.cell? ⟨g, 0, none⟩ = some (.iface T x)) (c1 : W.cell? ⟨g, 1, none⟩ = some (.iface U y)) :
    Calls Tryd.prog 43 #[.pointer (some ⟨rb, 0, none⟩), .int .i64 p, .slice (some ⟨g, 0, none⟩) 2 cap] W (EvPost rb B inp fuel m W (arithP p a b s)) := by
  have e10 : (p == 10) = false := by simp; omega
  have e11 : (p == 11) = false := by simp; omega
  have e12 : (p == 12) = false := by simp; omega
  have e13 : (p == 13) = false := by simp; omega
  have e14 : (p == 14) = false := by simp; omega
  have e15 : (p == 15) = false := by simp; omega
  have e16 : (p == 16) = false := by simp; omega
  have hd : Evo rb m m W W.drew := (Evo.refl _ _ _).drew
  have HA := Lib.hid (cnumber_any (ha.evo hd))
  have HB := Lib.hid (cnumber_any (hb.evo hd))
  have HS := Lib.hid (fun (h : numOf a = none ∨ numOf b = none) => (show EvPost rb B inp fuel m W (arithP p a b s) (.panicked (stopV 4)) W.drew from by
    have : arithP p a b s = (.stuck, s) := by
      unfold arithP
      rcases h with h | h
      · rw [h]
      · rw [h]; cases numOf a <;> rfl
    rw [this]
    exact EvPost.stuck hd (hg.below (Below.refl _ _).drew) (thrown_one _ _)))
  have HV := Lib.hid (fun (i j k : Int) (hi : numOf a = some i) (hj : numOf b = some j) (w' : World) (hw : Below W.heap.size W w') (hk : doP p i j = some k) => (show EvPost rb B inp fuel m W (arithP p a b s) (.returned (.iface 87 (.int .i64 k))) w' from by
    have : arithP p a b s = (.val (.int k), s) := by unfold arithP; rw [hi, hj]; simp [hk]
    rw [this]
    exact EvPost.val (Evo.below hw) (hg.below hw) (.int k)))
  have HR := Lib.hid (fun (i j : Int) (hi : numOf a = some i) (hj : numOf b = some j) (w' : World) (hw : Below W.heap.size W w') (hk : doP p i j = none) => (show EvPost rb B inp fuel m W (arithP p a b s) (.panicked (raisedV (.iface 87 (.int .i64 0)))) w' from by
    have : arithP p a b s = (.raised (.int 0), s) := by unfold arithP; rw [hi, hj]; simp [hk]
    rw [this]
    exact EvPost.raised (Evo.below hw) (hg.below hw) (.int 0) ⟨0, rfl⟩ (thrown_one _ _)))
  generalize arithP p a b s = o at *
  have HD := Lib.hid (fun (i j : Int) => do_any p i j hp1 hp9 W.drew)
  clear hg ha hb hd hp1 hp9
  go_enter Tryd.func43, Tryd.ntmps43
  go_wp2_with fail
  go_region_held2 (fun w' => w'.cell? ⟨g, 0, none⟩ = some (.iface T x) ∧ w'.cell? ⟨g, 1, none⟩ = some (.iface U y)) (exact ⟨c0, c1⟩)
    ((first
      | (go_at_call 69; (with_reducible refine HA.out.mono ?_); rintro e w' (⟨i, hi, rfl, rfl⟩ | ⟨hi, rfl, rfl⟩); rotate_left; exact ⟨rfl, HS.out (.inl hi)⟩)
      | (go_at_call 69; (with_reducible refine HB.out.mono ?_); rintro e w' (⟨j, hj, rfl, rfl⟩ | ⟨hj, rfl, rfl⟩); rotate_left; exact ⟨rfl, HS.out (.inr hj)⟩)))
  go_wp2_with fail
  refine (HD.out i j).mono ?_
  rintro e w' (⟨k, hk, rfl, hw⟩ | ⟨hk, rfl, hw⟩)
  · go_wp2_with fail
    go_ret
    exact HV.out i j k hi hj _ ⟨hw.os, hw.tape, hw.output, hw.size, hw.block⟩ hk
  · go_wp2_with fail
    exact ⟨rfl, HR.out i j hi hj _ ⟨hw.os, hw.tape, hw.output, hw.size, hw.block⟩ hk⟩

theorem ownsRow_shape {w : World} {base : Nat} {e : TypeId} {size : Nat} {v : Value} {n : Nat} {xs : List Value} (h : w.ownsRow base e size v n xs) : ∃ A k c, v = .slice A k c := by
  rcases h.2 with ⟨rfl, _⟩ | ⟨g, cap, cur, rfl, _⟩ <;> exact ⟨_, _, _, rfl⟩

set_option maxRecDepth 100000 in
set_option maxHeartbeats 2000000 in
theorem prim_print (hg : Good rb B inp fuel s m W) (hs : s.out.length + s.left < fuel) {a : PV} {T : TypeId} {x : Value} (ha : RepV rb m W a (.iface T x)) {g cap : Nat} (hgr : g ≠ rb) (c0 : W.cell? ⟨g, 0, none⟩ = some (.iface T x)) :
    Calls Tryd.prog 43 #[.pointer (some ⟨rb, 0, none⟩), .int .i64 13, .slice (some ⟨g, 0, none⟩) 1 cap] W (EvPost rb B inp fuel m W (match numOf a with | some k => (.val (.int 0), { s with out := s.out ++ [k] }) | none => (.stuck, s))) := by
  have hd : Evo rb m m W W.drew := (Evo.refl _ _ _).drew
  have HA := Lib.hid (cnumber_any (ha.evo hd))
  obtain ⟨i0, hinf, hz0, hz1, hz2⟩ := info_parts Tryd.info3
  have hS := Lib.hid (fun (h : numOf a = none) => (show EvPost rb B inp fuel m W (match numOf a with | some k => (.val (.int 0), { s with out := s.out ++ [k] }) | none => (.stuck, s)) (.panicked (stopV 4)) W.drew from by
    rw [h]
    exact EvPost.stuck hd (hg.below (Below.refl _ _).drew) (thrown_one _ _)))
  have HV := Lib.hid (fun (k : Int) (hk : numOf a = some k) (w1 : World) (v' : Value) (h1 : w1.ownsRow B 3 1 v' (s.out.length + 1) (s.out.map (Value.int .i64) ++ [.int .i64 k])) (h2 : (W.drew.alloc (.cells #[.int .i64 k] 3)).grownBy w1 m.vo.ownBlock)
      (hat : v'.ownBlock = m.vo.ownBlock ∨ v'.ownBlock = some (W.drew.alloc (.cells #[.int .i64 k] 3)).heap.size) => (show EvPost rb B inp fuel m W (match numOf a with | some k => (.val (.int 0), { s with out := s.out ++ [k] }) | none => (.stuck, s)) (.returned (.iface 87 (.int .i64 0))) (w1.setCell ⟨rb, 4, none⟩ v') from by
    obtain ⟨q1, q2⟩ := hg.print hs ((Below.refl _ W).drew.alloc (Nat.le_refl _) (.cells #[.int .i64 k] 3)) h1 h2 hat
    rw [hk]
    exact EvPost.val q2 q1 (.int 0)))
  generalize (match numOf a with | some k => ((.val (.int 0), { s with out := s.out ++ [k] }) : Out) | none => (.stuck, s)) = o at *
  obtain ⟨Ai, ci, hr, hii, hci⟩ := hg.run
  have cr : W.cell? ⟨rb, 4, none⟩ = some m.vo := by simp [World.cell?, hr]
  have fr : W.frozen? ⟨rb, 4, none⟩ = false := by simp [World.frozen?, hr]
  have hrbl := World.block_lt_of_cell? _ _ cr
  have hown := hg.out
  have hon := hg.rbo
  have hlen : s.out.length ≤ 1000000 := by have := hg.fuelB; have := hg.bnd; omega
  have hBs := hg.Bs
  have hgl := World.block_lt_of_cell? _ _ c0
  have hown2 : ∀ i : Int, ((W.alloc (.cells #[.int .i64 i] 3)).drew).ownsRow B 3 1 m.vo s.out.length (s.out.map (Value.int .i64)) := fun i => World.ownsRow.drew (World.ownsRow.alloc hown _)
  have hcr2 : ∀ i : Int, ((W.alloc (.cells #[.int .i64 i] 3)).drew).cell? ⟨rb, 4, none⟩ = some m.vo := fun i => (World.cell?_alloc_lt W _ _ hrbl).trans cr
  have hfr2 : ∀ i : Int, ((W.alloc (.cells #[.int .i64 i] 3)).drew).frozen? ⟨rb, 4, none⟩ = false := fun i => (((Below.refl _ W).alloc (Nat.le_refl _) (.cells #[.int .i64 i] 3)).frozen (p := ⟨rb, 4, none⟩) hrbl).trans fr
  replace hrbl : rb < W.heap.size := hrbl
  replace hgl : g < W.heap.size := hgl
  have hrl2 : ∀ i : Int, rb < ((W.alloc (.cells #[.int .i64 i] 3)).drew).heap.size := fun i => (show rb < (W.alloc (.cells #[.int .i64 i] 3)).heap.size from by rw [World.size_alloc]; omega)
  have hrn : some rb ≠ m.vo.ownBlock := fun e => hon e.symm
  clear hg ha hd hs hr hii hci
  generalize m.vo = vo at *
  generalize s.out.length = L at *
  go_enter Tryd.func43, Tryd.ntmps43
  go_wp2_with fail
  go_region_law ((first
      | (go_simp; refine HA.out.mono ?_; rintro e w' (⟨i, hi, rfl, rfl⟩ | ⟨hi, rfl, rfl⟩); rotate_left; exact ⟨rfl, hS.out hi⟩)
      | (rw [if_pos (by rfl)]; refine wp_append_at _ _ _ 23 rfl B 3 i0 (.int .i64 0) 1 8 Tryd.underlying23 hinf hz0 hz1 hz2 rfl (by decide) _ _ _ rfl (hown2 _) ⟨_, 0, none⟩ 1 1 [.int .i64 _] rfl rfl (cell_one_new _ _ _) (by simp [Value.oneCell']) (by simp only [maxLen]; omega) (by omega) (by simp; omega) ?_; intro v' w1 hown' hgrow hat; obtain ⟨A', n', c', rfl⟩ := ownsRow_shape hown'; have k1 := hgrow.cell (hcr2 _) hrn; have k2 := (World.frozen?_of_block (hgrow.block rb (hrl2 _) hrn)).trans (hfr2 _))))
  all_goals (go_wp2_with fail; go_ret; exact HV.out _ hi _ _ hown' hgrow hat)

def afterTry (rec : Core → PEnv → St → Out) (b : PV) (o : Out) : Out := match o with | (.raised v, s') => callP rec b v s' | o => o
def tryP (rec : Core → PEnv → St → Out) (a b : PV) (s : St) : Out := afterTry rec b (callP rec a (.int 0) s)

set_option maxRecDepth 100000 in
set_option maxHeartbeats 2000000 in
theorem prim_try (hok : TermOk rb B inp fuel n) (hg : Good rb B inp fuel s m W) (hn : s.left < n) {a b : PV} {T U : TypeId} {x y : Value} (ha : RepV rb m W a (.iface T x)) (hb : RepV rb m W b (.iface U y)) {g cap : Nat} (hgl : g < W.heap.size) (hgm : ¬ m.mut rb g) (c0 : W.cell? ⟨g, 0, none⟩ = some (.iface T x)) (c1 : W.cell? ⟨g, 1, none⟩ = some (.iface U y)) :
    Calls Tryd.prog 43 #[.pointer (some ⟨rb, 0, none⟩), .int .i64 16, .slice (some ⟨g, 0, none⟩) 2 cap] W (EvPost rb B inp fuel m W (tryP (ev inp n) a b s)) := by
  have HC := Lib.hid (caught_any hok a s m W _ ha hg hn)
  have hle := callP_le (ev_le inp n) a (.int 0) s
  have H2 := Lib.hid (fun (v : PV) (s' : St) (m' : Mem) (W' : World) (gv : Value) (hs : s'.left ≤ s.left) (hk : Evo rb m m' W W') (hg' : Good rb B inp fuel s' m' W') (hv : RepV rb m' W' v gv) =>
    (call_any hok b v s' m' W' _ _ (hb.evo hk) hv hg' (by omega)).mono fun e V h => EvPost.from_ hk h)
  have HK := Lib.hid (fun (m' : Mem) (W' : World) (hk : Evo rb m m' W W') => (show W'.cell? ⟨g, 1, none⟩ = some (.iface U y) from (cell_of_heap (hk.same g hgl hgm) 1).trans c1))
  unfold tryP
  generalize callP (ev inp n) a (.int 0) s = o at *
  clear hok hg hn ha hb
  go_enter Tryd.func43, Tryd.ntmps43
  go_wp2_with fail
  refine HC.out.mono ?_
  intro e V h
  cases h with
  | val hk hg' hv =>
    have HP := Lib.hid (EvPost.val hk hg' hv)
    go_wp2_with fail
    go_ret
    exact HP.out
  | @raised v s' m' _ gv hk hg' hv =>
    have k1 := HK.out _ _ hk
    have HD := Lib.hid (H2.out v s' m' V gv hle.left hk hg' hv)
    clear hk hg' hv hle
    go_wp2_with fail
    refine HD.out.mono ?_
    intro e V' h
    rcases h.ends with ⟨g', rfl, hP⟩ | ⟨ch, rfl, hP⟩
    · go_wp2_with fail
      go_ret
      exact (show EvPost rb B inp fuel m W (callP (ev inp n) b v s') _ _ from hP)
    · exact ⟨rfl, (show EvPost rb B inp fuel m W (callP (ev inp n) b v s') _ _ from hP)⟩
  | stuck hk hg' hth => exact ⟨rfl, EvPost.stuck hk hg' hth⟩
  | cut hk hg' hth => exact ⟨rfl, EvPost.cut hk hg' hth⟩

/-- what a primitive is handed -/
structure ArgsIn (rb : Nat) (m : Mem) (W : World) (l : List PV) (g cap : Nat) (F : Nat → Value) : Prop where
  lt : g < W.heap.size
  still : ¬ m.mut rb g
  cells : ∀ j, j < l.length → W.cell? ⟨g, j, none⟩ = some (F j)
  rep : ∀ j (h : j < l.length), RepV rb m W l[j] (F j)

theorem arithP_eq (inp : List Int) (rec : Core → PEnv → St → Out) (p : Int) (h9 : p ≤ 9) (a b : PV) (s : St) : primP inp rec p [a, b] s = arithP p a b s := by
  unfold primP arithP
  simp only []
  rw [if_neg (by omega), if_neg (by omega), if_neg (by omega), if_neg (by omega), if_neg (by omega), if_neg (by omega), if_neg (by omega)]
  cases a <;> cases b <;> rfl

theorem prim_any (hok : TermOk rb B inp fuel n) (hg : Good rb B inp fuel s m W) (hn : s.left < n) (hs : s.out.length + s.left < fuel) {p : Int} (hp1 : 1 ≤ p) (hp2 : p ≤ 16) {l : List PV} {g cap : Nat} {F : Nat → Value} (hl : l.length = if two p then 2 else 1) (ha : ArgsIn rb m W l g cap F) :
    Calls Tryd.prog 43 #[.pointer (some ⟨rb, 0, none⟩), .int .i64 p, .slice (some ⟨g, 0, none⟩) l.length cap] W (EvPost rb B inp fuel m W (primP inp (ev inp n) p l s)) := by
  have hst : ∀ e w', e = .panicked (stopV 4) ∧ W = w' → EvPost rb B inp fuel m W (.stuck, s) e w' := fun e w' h => by
    obtain ⟨rfl, rfl⟩ := h
    exact .stuck (Evo.refl _ _ _) hg (thrown_one _ _)
  have hgr : g ≠ rb := fun e => ha.still (.inl e)
  match l, hl, ha with
  | [], hl, ha => exfalso; simp at hl; split at hl <;> omega
  | [a], hl, ha =>
    have r0 := ha.rep 0 (by simp)
    have k0 := ha.cells 0 (by simp)
    obtain ⟨T, x, hF⟩ := r0.shape
    simp only [List.getElem_cons_zero] at r0
    rw [hF] at r0 k0
    have ht : two p = false := by cases h : two p <;> simp [h] at hl ⊢
    have hcase : p = 10 ∨ p = 11 ∨ p = 13 ∨ p = 14 ∨ p = 15 := by simp [two] at ht; omega
    rcases hcase with rfl | rfl | rfl | rfl | rfl
    · exact prim_ref hg r0 k0
    · cases a with
      | ref i =>
        cases r0
        rename_i b hb
        exact prim_get_ref hg hb k0
      | int k => cases r0; exact (prim_cell_other (.inl ⟨rfl, rfl⟩) _ (.inl rfl) _ k0 _).mono hst
      | blk t l => cases r0; exact (prim_cell_other (.inl ⟨rfl, rfl⟩) _ (.inr (.inl rfl)) _ k0 _).mono hst
      | fn i => cases r0; exact (prim_cell_other (.inl ⟨rfl, rfl⟩) _ (.inr (.inr rfl)) _ k0 _).mono hst
    · refine (prim_print hg hs r0 hgr k0).mono fun e w' h => ?_
      cases a <;> exact h
    · show Calls _ _ _ _ (EvPost rb B inp fuel m W (readP inp s))
      unfold readP
      split
      · exact prim_read_some hg (by assumption) _
      · exact prim_read_none hg (by omega) _
    · refine (prim_raise hg r0 k0).mono fun e w' h => ?_
      exact h
  | [a, b], hl, ha =>
    have r0 := ha.rep 0 (by simp)
    have k0 := ha.cells 0 (by simp)
    have r1 := ha.rep 1 (by simp)
    have k1 := ha.cells 1 (by simp)
    obtain ⟨T, x, hF⟩ := r0.shape
    obtain ⟨U, y, hF1⟩ := r1.shape
    simp only [List.getElem_cons_zero, List.getElem_cons_succ] at r0 r1
    rw [hF] at r0 k0
    rw [hF1] at r1 k1
    have ht : two p = true := by cases h : two p <;> simp [h] at hl ⊢
    have hcase : p ≤ 9 ∨ p = 12 ∨ p = 16 := by simpa [two] using ht
    rcases hcase with h9 | rfl | rfl
    · rw [arithP_eq _ _ _ h9]
      exact prim_arith hg hp1 h9 r0 r1 k0 k1
    · cases a with
      | ref i =>
        cases r0
        rename_i b' hb
        exact prim_set_ref hg hb r1 k0 k1
      | int k => cases r0; exact (prim_cell_other (.inr ⟨rfl, rfl⟩) _ (.inl rfl) _ k0 _).mono hst
      | blk t l => cases r0; exact (prim_cell_other (.inr ⟨rfl, rfl⟩) _ (.inr (.inl rfl)) _ k0 _).mono hst
      | fn i => cases r0; exact (prim_cell_other (.inr ⟨rfl, rfl⟩) _ (.inr (.inr rfl)) _ k0 _).mono hst
    · exact prim_try hok hg hn r0 r1 ha.lt ha.still k0 k1
  | _ :: _ :: _ :: _, hl, ha => exfalso; simp at hl; split at hl <;> omega
end
end Go.Proofs.YtnolhcdfknjncaaDoor
