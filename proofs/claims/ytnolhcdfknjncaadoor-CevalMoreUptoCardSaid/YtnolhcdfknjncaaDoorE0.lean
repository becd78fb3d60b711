/-
  The evaluator of core terms in plain Lean: what the program's ceval and the document's answer both compute.
-/
import Derived.Test.YtnolhcdfknjncaaDoorA
set_option linter.unusedVariables false
set_option linter.unusedSimpArgs false
namespace Go.Proofs.YtnolhcdfknjncaaDoor

/-- a value -/
inductive PV where
  | int (n : Int)
  | blk (tag : Int) (kids : List PV)
  | fn (i : Nat)
  | ref (i : Nat)
instance : Inhabited PV := ⟨.int 0⟩
abbrev PEnv := List (Int × PV)
/-- a function that was made -/
structure PFn where
  param : Int
  body : Core
  env : PEnv
instance : Inhabited PFn := ⟨⟨0, default, []⟩⟩
/-- a run's state: steps that are left, functions, cells, what was printed, how many ints were asked for -/
structure St where
  left : Nat
  fns : List PFn
  cells : List PV
  out : List Int
  asked : Nat
inductive Res where
  | val (v : PV)
  | raised (v : PV)
  | stuck
  | cut
abbrev Out := Res × St

def Out.andThen (o : Out) (f : PV → St → Out) : Out :=
  match o with
  | (.val v, s) => f v s
  | (.raised v, s) => (.raised v, s)
  | (.stuck, s) => (.stuck, s)
  | (.cut, s) => (.cut, s)

/-- a value's key -/
def keyOf : PV → Option Int
  | .int n => some n
  | .blk t _ => some t
  | _ => none
def numOf : PV → Option Int
  | .int n => some n
  | _ => none

def lookup (e : PEnv) (x : Int) : Option PV := (e.find? (fun p => p.1 == x)).map (·.2)

/-- the place of a key among some, from 1 on; 0: none -/
def whichAt (keys : List Int) (key : Int) : Nat := match keys.findIdx? (· == key) with | some i => i + 1 | none => 0

/-- what is done with two ints -/
def doP (p a b : Int) : Option Int :=
  let a := wrap31 a
  let b := wrap31 b
  if (p = 4 ∨ p = 5) ∧ b = 0 then none
  else some (wrap31 (if p = 1 then a + b else if p = 2 then a - b else if p = 3 then a * b else if p = 4 then a.tdiv b else if p = 5 then a.tmod b
    else if p = 6 then (if a = b then 1 else 0) else if p = 7 then (if a ≠ b then 1 else 0) else if p = 8 then (if a < b then 1 else 0) else (if a ≤ b then 1 else 0)))

section
variable (inp : List Int) (rec : Core → PEnv → St → Out)

def callP (f a : PV) (s : St) : Out :=
  match f with
  | .fn i => rec (s.fns[i]?.getD default).body (((s.fns[i]?.getD default).param, a) :: (s.fns[i]?.getD default).env) s
  | _ => (.stuck, s)

/-- the values of terms, from the left -/
def evs (e : PEnv) : List Core → List PV → St → (Res ⊕ List PV) × St
  | [], acc, s => (.inr acc, s)
  | c :: cs, acc, s =>
    match rec c e s with
    | (.val v, s') => evs e cs (acc ++ [v]) s'
    | (r, s') => (.inl r, s')

/-- what is known behind functions that know one another -/
def fixEnv : List Int → Nat → PEnv → PEnv
  | x :: _ :: ks, i, e => fixEnv ks (i + 1) ((x, .fn i) :: e)
  | _, _, e => e
def fixFns (env : PEnv) : List Int → List Core → List PFn
  | _ :: p :: ks, c :: cs => ⟨p, c, env⟩ :: fixFns env ks cs
  | _, _ => []

def readP (s : St) : Out :=
  if s.asked < inp.length then (.val (.int (wrap31 (nth inp s.asked))), { s with asked := s.asked + 1 })
  else (.raised (.int 1), { s with asked := s.asked + 1 })

/-- a primitive -/
def primP (p : Int) (l : List PV) (s : St) : Out :=
  let a := l[0]?.getD default
  let b := l[1]?.getD default
  if p = 10 then (.val (.ref s.cells.length), { s with cells := s.cells ++ [a] })
  else if p = 11 then (match a with | .ref i => (.val (s.cells[i]?.getD default), s) | _ => (.stuck, s))
  else if p = 12 then (match a with | .ref i => (.val (.int 0), { s with cells := s.cells.set i b }) | _ => (.stuck, s))
  else if p = 13 then (match a with | .int n => (.val (.int 0), { s with out := s.out ++ [n] }) | _ => (.stuck, s))
  else if p = 14 then readP inp s
  else if p = 15 then (match keyOf a with | some _ => (.raised a, s) | none => (.stuck, s))
  else if p = 16 then (match callP rec a (.int 0) s with | (.raised v, s') => callP rec b v s' | o => o)
  else match a, b with
    | .int x, .int y => (match doP p x y with | some n => (.val (.int n), s) | none => (.raised (.int 0), s))
    | _, _ => (.stuck, s)

/-- a term, a step having been taken -/
def bodyP (t : Core) (e : PEnv) (s : St) : Out :=
  let kid := fun (i : Nat) => t.cs[i]?.getD default
  if t.k = 1 then (match lookup e t.n with | some v => (.val v, s) | none => (.stuck, s))
  else if t.k = 2 then (.val (.int t.n), s)
  else if t.k = 3 then (.val (.fn s.fns.length), { s with fns := s.fns ++ [⟨t.n, kid 0, e⟩] })
  else if t.k = 4 then Out.andThen (rec (kid 0) e s) fun f s => Out.andThen (rec (kid 1) e s) fun a s => callP rec f a s
  else if t.k = 5 then Out.andThen (rec (kid 0) e s) fun v s => rec (kid 1) ((t.n, v) :: e) s
  else if t.k = 6 then
    let e' := fixEnv t.ks s.fns.length e
    rec (kid (t.cs.length - 1)) e' { s with fns := s.fns ++ fixFns e' t.ks t.cs }
  else if t.k = 8 then Out.andThen (rec (kid 0) e s) fun v s =>
    (match v with | .blk _ l => if t.n < l.length then (.val (l[t.n.toNat]?.getD default), s) else (.stuck, s) | _ => (.stuck, s))
  else if t.k = 9 then Out.andThen (rec (kid 0) e s) fun v s =>
    (match keyOf v with | some key => rec (kid (1 + whichAt t.ks key)) e s | none => (.stuck, s))
  else match evs rec e t.cs [] s with
    | (.inl r, s') => (r, s')
    | (.inr l, s') => if t.k = 7 then (.val (.blk t.n l), s') else primP inp rec t.n l s'
end

/-- a term: n bounds how deep the evaluation goes -/
def ev (inp : List Int) : Nat → Core → PEnv → St → Out
  | 0, _, _, s => (.cut, s)
  | n + 1, t, e, s => if s.left = 0 then (.cut, s) else bodyP inp (ev inp n) t e { s with left := s.left - 1 }

/-- how a run ends: kind, N, what was printed, steps -/
structure PEnd where
  kind : Int
  n : Int
  out : List Int
  steps : Nat
def endOf (fuel : Nat) : Out → PEnd
  | (.val _, s) => ⟨1, 0, s.out, fuel - s.left⟩
  | (.raised v, s) => if 0 ≤ (keyOf v).getD 0 then ⟨2, (keyOf v).getD 0, s.out, fuel - s.left⟩ else ⟨4, 0, s.out, fuel - s.left⟩
  | (.stuck, s) => ⟨4, 0, s.out, fuel - s.left⟩
  | (.cut, s) => ⟨3, 0, s.out, fuel - s.left⟩
def initSt (fuel : Nat) : St := ⟨fuel, [], [], [], 0⟩
/-- fuel as a run takes it -/
def fuelOf (f : Int) : Nat := (min (max f 0) 1000000).toNat
def runOut (t : Core) (inp : List Int) (f : Int) : Out := ev (inp.take 4096) (fuelOf f + 1) t [] (initSt (fuelOf f))
end Go.Proofs.YtnolhcdfknjncaaDoor
