/-
 6 texts of this seat in one: K12 K5 K13 K14 K2 K10.
-/
import Derived.Test.YtnobggabjpcbfaaGreatQI2
set_option maxRecDepth 100000
set_option maxHeartbeats 16000000
set_option linter.unusedVariables false
set_option linter.unusedSimpArgs false
namespace Go.Proofs.YtnobggabjpcbfaaGreat
def inB (n a b : Int) : Bool := decide (a ≤ n) && decide (n ≤ b)
theorem inB_iff {n a b : Int} : inB n a b = true ↔ a ≤ n ∧ n ≤ b := by simp [inB]
def twoF (p : Int) : Bool := decide (p ≤ 9) || decide (p = 12) || decide (p = 16)
def atomB (a : Atm) : Bool := a.v || inB a.n (-1073741824) 1073741823
def varB (n : Int) : Bool := inB n 0 65535
def groupV : List Int → List Int
 | [] => []
 | [x] => [x]
 | [x, _] => [x]
 | x :: _ :: _ :: ks => x :: groupV ks
def groupF : List Int → List Int
 | _ :: f :: _ :: ks => f :: groupF ks
 | [_, f] => [f]
 | _ => []
def groupH : List Int → List Int
 | _ :: _ :: h :: ks => h :: groupH ks
 | _ => []
def hasN (k : Int) : Bool := k == 2 || k == 3 || k == 4 || k == 9
def hasA (k : Int) : Bool := k == 1 || k == 6 || k == 2 || k == 3 || k == 4 || k == 9 || k == 8 || k == 10
def hasK (k : Int) : Bool := k == 8 || k == 10
def hasB (k : Int) : Bool := k == 8
def bareB (k n : Int) (na nk nb : Nat) : Bool := hasA k && (hasN k || n == 0) && (hasA k || na == 0) && (hasK k || nk == 0) && (hasB k || nb == 0)
def numberB (nf : Nat) (x k n : Int) (ats : List Atm) (ks : List Int) : Bool :=
 varB x && (k != 10 || (groupV ks).all varB) && (if k = 3 then inB n 0 1023 else if k = 4 then inB n 0 255 else if k = 9 then inB n 0 ((nf : Int) - 1) else true) && ats.all atomB
def sumL : List Int → Int
 | [] => 0
 | x :: l => x + sumL l
def countB (x k n : Int) (na : Nat) (ks : List Int) (nb : Nat) : Bool :=
 if k = 6 then na == 2
 else if k = 2 ∧ twoF n = true then na == 2
 else if k = 3 then inB na 1 8
 else if k = 9 then decide ((na : Int) ≤ 255)
 else if k = 8 then na == 1 && nb == ks.length + 1
 else if k = 10 then (groupH ks).all (fun h => inB h 0 255) && decide (3 ≤ ks.length) && ks.length % 3 == 0 && sumL (groupH ks) == (na : Int) && nth ks 0 == x
 else na == 1
def risingB (l : List Int) : Bool := l.all (fun h => inB h (-1073741824) 1073741823) && (List.range l.length).all (fun i => i == 0 || decide (nth l (i - 1) < nth l i))
def funsB (nf : Nat) (ks : List Int) : Bool := (groupF ks).all (fun f => inB f 0 ((nf : Int) - 1))
def bindE (nf : Nat) (x k n : Int) (ats : List Atm) (ks : List Int) (nb : Nat) : Int :=
 if bareB k n ats.length ks.length nb = false then 29
 else if numberB nf x k n ats ks = false then 2
 else if k = 2 ∧ inB n 1 16 = false then 28
 else if countB x k n ats.length ks nb = false then 19
 else if k = 10 ∧ funsB nf ks = false then 2
 else if k = 8 ∧ risingB ks = false then 3
 else 0
def asksB (kn : List Int) (a : Atm) : Bool := !a.v || kn.contains a.n
mutual
def bodyE (nf : Nat) (kn : List Int) : Anf → Int
 | .ret a => if atomB a = false then 2 else if asksB kn a = false then 16 else 0
 | .bind x k n ats ks bl rest =>
  if bindE nf x k n ats ks bl.length ≠ 0 then bindE nf x k n ats ks bl.length
  else if ats.all (asksB (if k = 10 then groupV ks ++ kn else kn)) = false then 16
  else if blocksE nf (if k = 10 then groupV ks ++ kn else kn) bl ≠ 0 then blocksE nf (if k = 10 then groupV ks ++ kn else kn) bl
  else bodyE nf (if k = 10 then groupV ks ++ kn else x :: kn) rest
def blocksE (nf : Nat) (kn : List Int) : List Anf → Int
 | [] => 0
 | c :: cs => if bodyE nf kn c ≠ 0 then bodyE nf kn c else blocksE nf kn cs
end
mutual
def sizeA (most : Int) : Anf → Int → Int
 | .ret _, n => n
 | .bind _ _ _ _ _ bl r, n => let q := sizeL most bl n; if q.2 then q.1 else sizeA most r q.1
def sizeL (most : Int) : List Anf → Int → Int × Bool
 | [], n => (n, false)
 | c :: cs, n => if n > most then (n, true) else sizeL most cs (n + sizeA most c c.len)
end
def sizeB (a : Anf) (most : Int) : Int := sizeA most a a.len
mutual
def deepA : Anf → Nat → Int → Int
 | .ret _, _, n => n
 | .bind _ _ _ _ _ bl r, m, n => deepA r m (deepL bl m n)
def deepL : List Anf → Nat → Int → Int
 | [], _, n => n
 | c :: cs, 0, n => deepL cs 0 n
 | c :: cs, m + 1, n => deepL cs (m + 1) (max n (deepA c m 0 + 1))
end
def deepB (a : Anf) (most : Nat) : Int := deepA a most 0 + 1
def longB : List Anf → Int → Bool
 | [], _ => false
 | b :: bs, n => if n + sizeB b 65536 > 65536 ∨ deepB b 400 > 400 then true else longB bs (n + sizeB b 65536)
def funsE (nf : Nat) : List FFun → Int
 | [] => 0
 | g :: gs => if varB g.env = false ∨ varB g.param = false then 2 else if g.env = g.param then 9 else if bodyE nf [g.param, g.env] g.body ≠ 0 then bodyE nf [g.param, g.env] g.body else funsE nf gs
def rightC (p : FlatP) : Int :=
 if 1024 < p.funs.length then 6
 else if longB (p.funs.map (·.body) ++ [p.main]) 0 then 4
 else if funsE p.funs.length p.funs ≠ 0 then funsE p.funs.length p.funs
 else bodyE p.funs.length [] p.main
inductive WfA (nf : Nat) : Anf → Prop
 | ret (a : Atm) : WfA nf (.ret a)
 | bind {x k n : Int} {ats : List Atm} {ks : List Int} {bl : List Anf} {rest : Anf} (he : bindE nf x k n ats ks bl.length = 0) (hb : ∀ c ∈ bl, WfA nf c) (hr : WfA nf rest) : WfA nf (.bind x k n ats ks bl rest)
theorem ite_zero {p : Prop} [Decidable p] {a b : Int} (h : (if p then a else b) = 0) (ha : p → a ≠ 0) : ¬ p ∧ b = 0 := by
 by_cases hp : p
 · rw [if_pos hp] at h; exact absurd h (ha hp)
 · rw [if_neg hp] at h; exact ⟨hp, h⟩
mutual
theorem wf_of_bodyE {nf : Nat} : ∀ (a : Anf) (kn : List Int), bodyE nf kn a = 0 → WfA nf a
 | .ret a, kn, _ => .ret a
 | .bind x k n ats ks bl rest, kn, h => by
  unfold bodyE at h
  obtain ⟨h1, h⟩ := ite_zero h (fun h => h)
  obtain ⟨h2, h⟩ := ite_zero h (fun _ => by decide)
  obtain ⟨h3, h⟩ := ite_zero h (fun h => h)
  exact .bind (by simpa using h1) (wf_of_blocksE bl _ (by simpa using h3)) (wf_of_bodyE rest _ h)
theorem wf_of_blocksE {nf : Nat} : ∀ (cs : List Anf) (kn : List Int), blocksE nf kn cs = 0 → ∀ c ∈ cs, WfA nf c
 | [], _, _ => fun c hc => by simp at hc
 | c :: cs, kn, h => by
  unfold blocksE at h
  obtain ⟨h1, h⟩ := ite_zero h (fun h => h)
  have h2 : WfA nf c := wf_of_bodyE c kn (by simpa using h1)
  have h3 := wf_of_blocksE cs kn h
  intro c' hc'
  rcases List.mem_cons.1 hc' with rfl | hc'
  · exact h2
  · exact h3 c' hc'
end
theorem wf_of_funsE {nf : Nat} : ∀ (gs : List FFun), funsE nf gs = 0 → ∀ g ∈ gs, WfA nf g.body
 | [], _ => fun c hc => by simp at hc
 | g :: gs, h => by
  unfold funsE at h
  obtain ⟨_, h⟩ := ite_zero h (fun _ => by decide)
  obtain ⟨_, h⟩ := ite_zero h (fun _ => by decide)
  obtain ⟨h1, h⟩ := ite_zero h (fun h => h)
  have h3 := wf_of_funsE gs h
  intro c' hc'
  rcases List.mem_cons.1 hc' with rfl | hc'
  · exact wf_of_bodyE _ _ (by simpa using h1)
  · exact h3 c' hc'
theorem wf_of_rightC {p : FlatP} (h : rightC p = 0) : (∀ g ∈ p.funs, WfA p.funs.length g.body) ∧ WfA p.funs.length p.main := by
 unfold rightC at h
 obtain ⟨_, h⟩ := ite_zero h (fun _ => by decide)
 obtain ⟨_, h⟩ := ite_zero h (fun _ => by decide)
 obtain ⟨h1, h⟩ := ite_zero h (fun h => h)
 exact ⟨wf_of_funsE _ (by simpa using h1), wf_of_bodyE _ _ h⟩
/-! ### what a bind is that may be -/
structure BindOk (nf : Nat) (x k n : Int) (ats : List Atm) (ks : List Int) (nb : Nat) : Prop where
 bare : bareB k n ats.length ks.length nb = true
 number : numberB nf x k n ats ks = true
 prim : k = 2 → 1 ≤ n ∧ n ≤ 16
 count : countB x k n ats.length ks nb = true
 funs : k = 10 → funsB nf ks = true
theorem bindOk_of {nf : Nat} {x k n : Int} {ats : List Atm} {ks : List Int} {nb : Nat} (h : bindE nf x k n ats ks nb = 0) : BindOk nf x k n ats ks nb := by
 unfold bindE at h
 obtain ⟨h1, h⟩ := ite_zero h (fun _ => by decide)
 obtain ⟨h2, h⟩ := ite_zero h (fun _ => by decide)
 obtain ⟨h3, h⟩ := ite_zero h (fun _ => by decide)
 obtain ⟨h4, h⟩ := ite_zero h (fun _ => by decide)
 obtain ⟨h5, h⟩ := ite_zero h (fun _ => by decide)
 refine ⟨by simpa using h1, by simpa using h2, fun hk => ?_, by simpa using h4, fun hk => ?_⟩
 · exact inB_iff.1 (by simpa [hk] using h3)
 · simpa [hk] using h5
theorem BindOk.kind {nf : Nat} {x k n : Int} {ats : List Atm} {ks : List Int} {nb : Nat} (h : BindOk nf x k n ats ks nb) : k = 1 ∨ k = 2 ∨ k = 3 ∨ k = 4 ∨ k = 6 ∨ k = 8 ∨ k = 9 ∨ k = 10 := by
 have h1 := h.bare
 simp only [bareB, Bool.and_eq_true] at h1
 have h2 := h1.1.1.1.1
 simp [hasA] at h2
 omega
theorem BindOk.one {nf : Nat} {x k n : Int} {ats : List Atm} {ks : List Int} {nb : Nat} (h : BindOk nf x k n ats ks nb) (hk : k = 1 ∨ k = 4 ∨ k = 8) : ats.length = 1 := by
 have h1 := h.count
 unfold countB at h1
 rcases hk with rfl | rfl | rfl <;> simp at h1 <;> first | exact h1 | exact h1.1
theorem BindOk.app {nf : Nat} {x n : Int} {ats : List Atm} {ks : List Int} {nb : Nat} (h : BindOk nf x 6 n ats ks nb) : ats.length = 2 := by
 have h1 := h.count
 unfold countB at h1
 simpa using h1
theorem BindOk.primL {nf : Nat} {x n : Int} {ats : List Atm} {ks : List Int} {nb : Nat} (h : BindOk nf x 2 n ats ks nb) : ats.length = if twoF n then 2 else 1 := by
 have h1 := h.count
 unfold countB at h1
 cases ht : twoF n <;> simp [ht] at h1 ⊢ <;> exact h1
theorem BindOk.block {nf : Nat} {x n : Int} {ats : List Atm} {ks : List Int} {nb : Nat} (h : BindOk nf x 3 n ats ks nb) : 1 ≤ ats.length ∧ ats.length ≤ 8 := by
 have h1 := h.count
 unfold countB at h1
 simp [inB] at h1
 omega
theorem BindOk.close {nf : Nat} {x n : Int} {ats : List Atm} {ks : List Int} {nb : Nat} (h : BindOk nf x 9 n ats ks nb) : ats.length ≤ 255 ∧ 0 ≤ n ∧ n < nf := by
 have h1 := h.count
 unfold countB at h1
 simp at h1
 have h2 := h.number
 simp [numberB, inB] at h2
 omega
theorem BindOk.field {nf : Nat} {x n : Int} {ats : List Atm} {ks : List Int} {nb : Nat} (h : BindOk nf x 4 n ats ks nb) : 0 ≤ n ∧ n ≤ 255 := by
 have h2 := h.number
 simp [numberB, inB] at h2
 omega
theorem BindOk.switch {nf : Nat} {x n : Int} {ats : List Atm} {ks : List Int} {nb : Nat} (h : BindOk nf x 8 n ats ks nb) : nb = ks.length + 1 := by
 have h1 := h.count
 unfold countB at h1
 simp at h1
 exact h1.2
theorem BindOk.group {nf : Nat} {x n : Int} {ats : List Atm} {ks : List Int} {nb : Nat} (h : BindOk nf x 10 n ats ks nb) : (groupH ks).all (fun h => inB h 0 255) = true ∧ 3 ≤ ks.length ∧ ks.length % 3 = 0 ∧ sumL (groupH ks) = (ats.length : Int) ∧ (groupF ks).all (fun f => inB f 0 ((nf : Int) - 1)) = true := by
 have h1 := h.count
 unfold countB at h1
 simp only [show ¬ ((10 : Int) = 6) by decide, show ¬ ((10 : Int) = 2 ∧ twoF n = true) by simp, show ¬ ((10 : Int) = 3) by decide, show ¬ ((10 : Int) = 9) by decide, show ¬ ((10 : Int) = 8) by decide, if_false, if_true, Bool.and_eq_true, decide_eq_true_eq, beq_iff_eq] at h1
 exact ⟨h1.1.1.1.1, h1.1.1.1.2, h1.1.1.2, h1.1.2, h.funs rfl⟩
end Go.Proofs.YtnobggabjpcbfaaGreat
namespace Go.Proofs.YtnobggabjpcbfaaGreat
theorem atomsP_len {e : PEnv} : ∀ (ats : List Atm) (l : List PV), atomsP e ats = some l → l.length = ats.length
 | [], l, h => by simp only [atomsP, Option.some.injEq] at h; subst h; rfl
 | a :: ats, l, h => by
  unfold atomsP at h
  cases ha : atomP e a with
  | none => rw [ha] at h; cases h
  | some v =>
   rw [ha] at h
   simp only [Option.map_eq_some_iff] at h
   obtain ⟨l', h1, rfl⟩ := h
   simp [atomsP_len ats l' h1]
end Go.Proofs.YtnobggabjpcbfaaGreat
namespace Go.Proofs.YtnobggabjpcbfaaGreat
theorem nth_cons3 (x y z : Int) (l : List Int) (i : Nat) : nth (x :: y :: z :: l) (i + 3) = nth l i := by simp [nth]
theorem groupEnv_snoc : ∀ (k : Nat) (l : List Int) (x y z : Int) (i : Nat) (e : PEnv), l.length = 3 * k → groupEnv (l ++ [x, y, z]) i e = (x, .fn (i + k)) :: groupEnv l i e
 | 0, [], x, y, z, i, e, _ => by simp [groupEnv]
 | k + 1, a :: b :: c :: l, x, y, z, i, e, h => by
  have := groupEnv_snoc k l x y z (i + 1) ((a, .fn i) :: e) (by simp at h; omega)
  simp only [List.cons_append, groupEnv]
  rw [this, show i + 1 + k = i + (k + 1) by omega]
 | 0, _ :: _, x, y, z, i, e, h => by simp at h
 | k + 1, [], x, y, z, i, e, h => by simp at h
 | k + 1, [a], x, y, z, i, e, h => by simp at h; omega
 | k + 1, [a, b], x, y, z, i, e, h => by simp at h; omega
theorem groupEnv_take (ks : List Int) (i : Nat) (e : PEnv) {k : Nat} (h : 3 * k + 2 < ks.length) : groupEnv (ks.take (3 * (k + 1))) i e = (nth ks (3 * k), .fn (i + k)) :: groupEnv (ks.take (3 * k)) i e := by
 have h1 : ks.take (3 * (k + 1)) = ks.take (3 * k) ++ [nth ks (3 * k), nth ks (3 * k + 1), nth ks (3 * k + 2)] := by
  rw [show 3 * (k + 1) = 3 * k + 1 + 1 + 1 by omega, take_snoc ks (by omega), take_snoc ks (by omega), take_snoc ks (by omega)]
  simp
 rw [h1, groupEnv_snoc k _ _ _ _ _ _ (by simp; omega)]
def offN (ks : List Int) : Nat → Nat
 | 0 => 0
 | j + 1 => offN ks j + (nth ks (3 * j + 2)).toNat
theorem offN_cons (x y z : Int) (l : List Int) : ∀ j, offN (x :: y :: z :: l) (j + 1) = z.toNat + offN l j
 | 0 => by simp [offN, nth]
 | j + 1 => by
  have := offN_cons x y z l j
  unfold offN
  rw [this, show 3 * (j + 1) + 2 = 3 * j + 2 + 3 by omega, nth_cons3]
  unfold offN
  omega
theorem groupMade_length : ∀ (q : Nat) (ks : List Int) (l : List PV), ks.length = 3 * q → (groupMade ks l).length = q
 | 0, [], l, _ => by simp [groupMade]
 | q + 1, a :: b :: c :: ks, l, h => by simp [groupMade, groupMade_length q ks _ (by simp at h; omega)]
 | 0, _ :: _, l, h => by simp at h
 | q + 1, [], l, h => by simp at h
 | q + 1, [a], l, h => by simp at h; omega
 | q + 1, [a, b], l, h => by simp at h; omega
theorem groupMade_get : ∀ (q : Nat) (ks : List Int) (l : List PV), ks.length = 3 * q → ∀ j, j < q → (groupMade ks l)[j]? = some (nth ks (3 * j + 1), (l.drop (offN ks j)).take (nth ks (3 * j + 2)).toNat)
 | q + 1, a :: b :: c :: ks, l, h, 0, hj => by simp [groupMade, nth, offN]
 | q + 1, a :: b :: c :: ks, l, h, j + 1, hj => by
  have := groupMade_get q ks (l.drop c.toNat) (by simp at h; omega) j (by omega)
  simp only [groupMade, List.getElem?_cons_succ]
  rw [this, offN_cons, show 3 * (j + 1) + 1 = 3 * j + 1 + 3 by omega, show 3 * (j + 1) + 2 = 3 * j + 2 + 3 by omega, nth_cons3, nth_cons3, List.drop_drop]
 | 0, _, l, _, j, hj => by omega
 | q + 1, [], l, h, j, hj => by simp at h
 | q + 1, [a], l, h, j, hj => by simp at h; omega
 | q + 1, [a, b], l, h, j, hj => by simp at h; omega
theorem groupH_get : ∀ (q : Nat) (ks : List Int), ks.length = 3 * q → ∀ j, j < q → (groupH ks)[j]? = some (nth ks (3 * j + 2))
 | q + 1, a :: b :: c :: ks, h, 0, hj => by simp [groupH, nth]
 | q + 1, a :: b :: c :: ks, h, j + 1, hj => by
  simp only [groupH, List.getElem?_cons_succ]
  rw [groupH_get q ks (by simp at h; omega) j (by omega), show 3 * (j + 1) + 2 = 3 * j + 2 + 3 by omega, nth_cons3]
 | 0, _, _, j, hj => by omega
 | q + 1, [], h, j, hj => by simp at h
 | q + 1, [a], h, j, hj => by simp at h; omega
 | q + 1, [a, b], h, j, hj => by simp at h; omega
theorem groupF_get : ∀ (q : Nat) (ks : List Int), ks.length = 3 * q → ∀ j, j < q → (groupF ks)[j]? = some (nth ks (3 * j + 1))
 | q + 1, a :: b :: c :: ks, h, 0, hj => by simp [groupF, nth]
 | q + 1, a :: b :: c :: ks, h, j + 1, hj => by
  simp only [groupF, List.getElem?_cons_succ]
  rw [groupF_get q ks (by simp at h; omega) j (by omega), show 3 * (j + 1) + 1 = 3 * j + 1 + 3 by omega, nth_cons3]
 | 0, _, _, j, hj => by omega
 | q + 1, [], h, j, hj => by simp at h
 | q + 1, [a], h, j, hj => by simp at h; omega
 | q + 1, [a, b], h, j, hj => by simp at h; omega
theorem offN_sum : ∀ (q : Nat) (ks : List Int), ks.length = 3 * q → (groupH ks).all (fun h => inB h 0 255) = true → ((offN ks q : Nat) : Int) = sumL (groupH ks)
 | 0, [], _, _ => by simp [offN, groupH, sumL]
 | q + 1, a :: b :: c :: ks, h, hh => by
  simp only [groupH, List.all_cons, Bool.and_eq_true, inB_iff] at hh
  have := offN_sum q ks (by simp at h; omega) hh.2
  rw [offN_cons]
  simp only [groupH, sumL]
  omega
 | 0, _ :: _, h, _ => by simp at h
 | q + 1, [], h, _ => by simp at h
 | q + 1, [a], h, _ => by simp at h; omega
 | q + 1, [a, b], h, _ => by simp at h; omega
theorem offN_mono (ks : List Int) {i j : Nat} (h : i ≤ j) : offN ks i ≤ offN ks j := by
 induction h with
 | refl => exact Nat.le_refl _
 | step _ ih => exact Nat.le_trans ih (Nat.le_add_right _ _)
structure GroupOk (nf : Nat) (ks : List Int) (na q : Nat) : Prop where
 len : ks.length = 3 * q
 q1 : 1 ≤ q
 f : ∀ j, j < q → 0 ≤ nth ks (3 * j + 1) ∧ nth ks (3 * j + 1) < nf
 h : ∀ j, j < q → 0 ≤ nth ks (3 * j + 2) ∧ nth ks (3 * j + 2) ≤ 255
 sum : offN ks q = na
theorem BindOk.group_ {nf : Nat} {x n : Int} {ats : List Atm} {ks : List Int} {nb : Nat} (h : BindOk nf x 10 n ats ks nb) : ∃ q, GroupOk nf ks ats.length q := by
 obtain ⟨h1, h2, h3, h4, h5⟩ := h.group
 have hl : ks.length = 3 * (ks.length / 3) := by omega
 refine ⟨ks.length / 3, hl, by omega, fun j hj => ?_, fun j hj => ?_, ?_⟩
 · have hg := groupF_get _ ks hl j hj
   have := List.all_eq_true.1 h5 _ (List.mem_of_getElem? hg)
   have := inB_iff.1 this
   omega
 · have hg := groupH_get _ ks hl j hj
   exact inB_iff.1 (List.all_eq_true.1 h1 _ (List.mem_of_getElem? hg))
 · have := offN_sum _ ks hl h1
   omega
end Go.Proofs.YtnobggabjpcbfaaGreat
namespace Go.Proofs.YtnobggabjpcbfaaGreat
theorem groupV_get : ∀ (ks : List Int) (k : Nat), 3 * k < ks.length → (groupV ks)[k]? = some (nth ks (3 * k))
 | x :: y :: z :: ks, 0, h => by simp [groupV, nth]
 | x :: y :: z :: ks, k + 1, h => by
  simp only [groupV, List.getElem?_cons_succ]
  rw [groupV_get ks k (by simp at h; omega), show 3 * (k + 1) = 3 * k + 3 by omega, nth_cons3]
 | [x, y], 0, h => by simp [groupV, nth]
 | [x, y], k + 1, h => by simp at h; omega
 | [x], 0, h => by simp [groupV, nth]
 | [x], k + 1, h => by simp at h
 | [], k, h => by simp at h
theorem groupV_len : ∀ (ks : List Int), (groupV ks).length = (ks.length + 2) / 3
 | x :: y :: z :: ks => by simp only [groupV, List.length_cons, groupV_len ks]; omega
 | [x, y] => by simp [groupV]
 | [x] => by simp [groupV]
 | [] => by simp [groupV]
theorem groupF_get' : ∀ (ks : List Int) (k : Nat), 3 * k + 1 < ks.length → (groupF ks)[k]? = some (nth ks (3 * k + 1))
 | x :: y :: z :: ks, 0, h => by simp [groupF, nth]
 | x :: y :: z :: ks, k + 1, h => by
  simp only [groupF, List.getElem?_cons_succ]
  rw [groupF_get' ks k (by simp at h; omega), show 3 * (k + 1) + 1 = 3 * k + 1 + 3 by omega, nth_cons3]
 | [x, y], 0, h => by simp [groupF, nth]
 | [x, y], k + 1, h => by simp at h; omega
 | [x], k, h => by simp at h
 | [], k, h => by simp at h
theorem groupF_len : ∀ (ks : List Int), (groupF ks).length = (ks.length + 1) / 3
 | x :: y :: z :: ks => by simp only [groupF, List.length_cons, groupF_len ks]; omega
 | [x, y] => by simp [groupF]
 | [x] => by simp [groupF]
 | [] => by simp [groupF]
theorem groupH_get' : ∀ (ks : List Int) (k : Nat), 3 * k + 2 < ks.length → (groupH ks)[k]? = some (nth ks (3 * k + 2))
 | x :: y :: z :: ks, 0, h => by simp [groupH, nth]
 | x :: y :: z :: ks, k + 1, h => by
  simp only [groupH, List.getElem?_cons_succ]
  rw [groupH_get' ks k (by simp at h; omega), show 3 * (k + 1) + 2 = 3 * k + 2 + 3 by omega, nth_cons3]
 | [x, y], k, h => by simp at h; omega
 | [x], k, h => by simp at h
 | [], k, h => by simp at h
theorem groupH_len : ∀ (ks : List Int), (groupH ks).length = ks.length / 3
 | x :: y :: z :: ks => by simp only [groupH, List.length_cons, groupH_len ks]; omega
 | [x, y] => by simp [groupH]
 | [x] => by simp [groupH]
 | [] => by simp [groupH]
theorem sumL_append (a : List Int) (x : Int) : sumL (a ++ [x]) = sumL a + x := by
 induction a with
 | nil => simp [sumL]
 | cons y a ih => simp only [List.cons_append, sumL, ih]; omega
theorem all_take_succ {α : Type} {f : α → Bool} {l : List α} {k : Nat} {x : α} (hx : l[k]? = some x) (h : (l.take k).all f = true) (hf : f x = true) : (l.take (k + 1)).all f = true := by
 rw [List.take_add_one, hx]
 simp only [List.all_append, Bool.and_eq_true]
 exact ⟨h, by simpa using hf⟩
theorem all_false {α : Type} {f : α → Bool} {l : List α} {k : Nat} {x : α} (hx : l[k]? = some x) (hf : f x = false) : l.all f = false := by
 rw [Bool.eq_false_iff]
 intro h
 have := List.all_eq_true.1 h x (List.mem_of_getElem? hx)
 rw [hf] at this; cases this
theorem any_false_take {α : Type} {f : α → Bool} {l : List α} {k : Nat} (h : ∀ j, j < k → ∀ x, l[j]? = some x → f x = false) (hk : l.length ≤ k) : l.any f = false := by
 rw [Bool.eq_false_iff]
 intro h2
 obtain ⟨x, hx, hf⟩ := List.any_eq_true.1 h2
 obtain ⟨i, hi, rfl⟩ := List.getElem_of_mem hx
 have := h i (by omega) _ (List.getElem?_eq_getElem hi)
 rw [hf] at this; cases this
def riseOk (l : List Int) (i : Nat) : Bool := inB (nth l i) (-1073741824) 1073741823 && (i == 0 || decide (nth l (i - 1) < nth l i))
theorem risingB_true {l : List Int} (h : ∀ i, i < l.length → riseOk l i = true) : risingB l = true := by
 unfold risingB
 rw [Bool.and_eq_true]
 refine ⟨List.all_eq_true.2 fun x hx => ?_, List.all_eq_true.2 fun i hi => ?_⟩
 · obtain ⟨i, hi, rfl⟩ := List.getElem_of_mem hx
   have := h i hi
   unfold riseOk at this
   rw [Bool.and_eq_true, nth_eq l hi] at this
   exact this.1
 · have := h i (List.mem_range.1 hi)
   unfold riseOk at this
   rw [Bool.and_eq_true] at this
   exact this.2
theorem risingB_false {l : List Int} {i : Nat} (hi : i < l.length) (h : riseOk l i = false) : risingB l = false := by
 rw [Bool.eq_false_iff]
 intro h2
 unfold risingB at h2
 rw [Bool.and_eq_true] at h2
 have h3 := List.all_eq_true.1 h2.1 _ (List.getElem_mem hi)
 have h4 := List.all_eq_true.1 h2.2 i (List.mem_range.2 hi)
 unfold riseOk at h
 rw [nth_eq l hi] at h
 rw [nth_eq l hi] at h4
 simp only [h3, h4, Bool.and_self] at h
 cases h
end Go.Proofs.YtnobggabjpcbfaaGreat
namespace Go.Proofs.YtnobggabjpcbfaaGreat
theorem endF_out (F : Nat) (o : FOut) : (endF F o).out = o.2.out := by
 obtain ⟨r, s⟩ := o
 cases r <;> simp [endF]
 split <;> rfl
end Go.Proofs.YtnobggabjpcbfaaGreat
namespace Go.Proofs.YtnobggabjpcbfaaGreat
open Go.RowKit
theorem nodesA_any : ∀ (N : Nat) {t : Anf} {v : Array Value}, SizeOf.sizeOf t < N → ∀ (W : World), BodyIn W.heap.size W t v → ∀ most : Int, -1000 ≤ most → most ≤ 1000 →
 Calls Tryz.prog 14 #[.agg v, .int .i64 most] W fun e w' => e = .returned (.int .i64 (nodesA t most 1)) ∧ Below W.heap.size W w'
 | 0, _, _, h => absurd h (Nat.not_lt_zero _)
 | N + 1, t, v, hsz => by
  intro W hin most hm1 hm2
  have ih := @nodesA_any N
  obtain ⟨A, c, b, o, rfl, hc, h96, hA, hB⟩ := hin.at_
  obtain ⟨W0, hW0⟩ : ∃ W0, W.alloc (.cells #[.slice A t.len c, .bool t.last.v, .int .i64 t.last.n] 27) = W0 := ⟨_, rfl⟩
  have hb0 : Below W.heap.size W W0 := by rw [← hW0]; exact (Below.refl _ _).alloc (Nat.le_refl _) _
  have hs0 : W.heap.size < W0.heap.size := by rw [← hW0]; simp
  have e0 : W0.cell? ⟨W.heap.size, 0, none⟩ = some (.slice A t.len c) := by rw [← hW0, World.cell?_alloc_at _ _ _ _ rfl]; rfl
  have HBI := Lib.hid (fun (i : Nat) (hi : i < t.len) (V : World) (hV : Below W0.heap.size W0 V) =>
   (show ∃ x k n ats ks bl Aa ca Ak ck Al cl, A = some ⟨b, o, none⟩ ∧ b < W.heap.size ∧ Hid (t.tail i = .bind x k n ats ks bl (t.tail (i + 1))) ∧ V.cell? ⟨b, o + i * 6 + 1, none⟩ = some (.int .i64 k) ∧ V.cell? ⟨b, o + i * 6 + 2, none⟩ = some (.int .i64 n) ∧ V.cell? ⟨b, o + i * 6 + 3, none⟩ = some (.slice Aa ats.length ca) ∧ V.cell? ⟨b, o + i * 6 + 4, none⟩ = some (.slice Ak ks.length ck) ∧ V.cell? ⟨b, o + i * 6 + 5, none⟩ = some (.slice Al bl.length cl) ∧ ats.length ≤ 9000000000000 ∧ ks.length ≤ 18000000000000 ∧ bl.length ≤ cl ∧ bl.length ≤ 4000000000000 ∧
    Hid (∀ j (h : j < bl.length) (V2 : World) (h2 : Below V.heap.size V V2), ∃ bb oo A0 n0 c0 r0 r1, Al = some ⟨bb, oo, none⟩ ∧ V2.cell? ⟨bb, oo + j * 3, none⟩ = some (.slice A0 n0 c0) ∧ V2.cell? ⟨bb, oo + j * 3 + 1, none⟩ = some (.bool r0) ∧ V2.cell? ⟨bb, oo + j * 3 + 2, none⟩ = some (.int .i64 r1) ∧
     ∀ m : Int, -1000 ≤ m → m ≤ 1000 → (1 ≤ nodesA bl[j] m 1 ∧ nodesA bl[j] m 1 ≤ max 1 (m + 27000000000000)) ∧ Calls Tryz.prog 14 #[.agg #[.slice A0 n0 c0, .bool r0, .int .i64 r1], .int .i64 m] V2 fun e w' => e = .returned (.int .i64 (nodesA bl[j] m 1)) ∧ Below V2.heap.size V2 w') from by
    obtain ⟨x, k, n, ats, ks, bl, Aa, ca, Ak, ck, Al, cl, he, hbi⟩ := hB i hi
    have hV0 : Below W.heap.size W V := hb0.trans (hV.mono hb0.size)
    have ha := hbi.ha.1
    have hk := hbi.hk.1
    have h8 := hbi.hl8
    refine ⟨x, k, n, ats, ks, bl, Aa, ca, Ak, ck, Al, cl, hA (by omega), hbi.lt, Lib.hid he, (hV0.cell (p := ⟨_, _, none⟩) hbi.lt).trans hbi.c1, (hV0.cell (p := ⟨_, _, none⟩) hbi.lt).trans hbi.c2, (hV0.cell (p := ⟨_, _, none⟩) hbi.lt).trans hbi.c3, (hV0.cell (p := ⟨_, _, none⟩) hbi.lt).trans hbi.c4, (hV0.cell (p := ⟨_, _, none⟩) hbi.lt).trans hbi.c5, by omega, by omega, hbi.hlc, by omega, Lib.hid (fun j hj V2 h2 => ?_)⟩
    obtain ⟨bb, oo, g0, g1, g2, e1, e2, e3, e4, e5, hbd⟩ := hbi.blk j hj
    have hV2 : Below W.heap.size W V2 := hV0.trans (h2.mono hV0.size)
    have hbl : ∀ m, nodesA bl[j] m 1 ≤ max 1 (m + 27000000000000) := fun m => by
     obtain ⟨_, _, _, _, -, -, -, -, h5⟩ := hbd
     exact nodesA_le h5 m 1
    obtain ⟨A0, c0, b0, o0, hv, -⟩ := hbd.at_
    simp only [Array.mk.injEq, List.cons.injEq, and_true] at hv
    obtain ⟨rfl, rfl, rfl⟩ := hv
    refine ⟨bb, oo, A0, _, c0, _, _, e1, (hV2.cell (p := ⟨_, _, none⟩) e2).trans e3, (hV2.cell (p := ⟨_, _, none⟩) e2).trans e4, (hV2.cell (p := ⟨_, _, none⟩) e2).trans e5, fun m k1 k2 => ?_⟩
    have hlt := size_block he (List.getElem_mem hj)
    exact ⟨⟨nodesA_ge _ _ _, hbl m⟩, ih (by omega) V2 ((hbd.kept hV2).mono hV2.size) m k1 k2⟩))
  have HLE := Lib.hid (fun (i : Nat) (m n : Int) => (show nodesA (t.tail i) m n ≤ max n (m + 27000000000000) from by
   obtain ⟨_, _, b1, o1, -, -, -, -, h5⟩ := hin
   exact nodesA_le (h5.from_ i) m n))
  have HB0 := Lib.hid hb0
  have HS0 := Lib.hid hs0
  have HT := Lib.hid (Anf.tail_ret t)
  have HZ := Lib.hid (Anf.tail_zero t)
  clear ih hB hin hb0 hA hs0
  obtain ⟨tl, htl⟩ : ∃ tl, t.len = tl := ⟨_, rfl⟩
  rw [htl] at e0 HBI HT h96 hc hW0 ⊢
  have htl8 : tl ≤ 2000000000000 := by omega
  clear h96 hc hsz htl
  obtain ⟨FIN, hFIN⟩ : ∃ z, nodesA t most 1 = z := ⟨_, rfl⟩
  have HF := Lib.hid hFIN
  rw [hFIN]
  clear hFIN
  generalize t.last.v = lv at *
  generalize t.last.n = ln at *
  go_enter Tryz.func14, Tryz.ntmps14
  go_wp2_with fail
  go_loopw [5, 6, 7, 8] (fun n i _ _ wr => ∃ (j : Nat) (m : Int), j ≤ tl ∧ i = .int .i64 (j : Int) ∧ n = .int .i64 m ∧ Hid (Below W0.heap.size W0 wr) ∧ 1 ≤ m ∧ m ≤ 27000000001000 ∧ Hid (FIN = nodesA (t.tail j) most m)) (fun _ i _ _ _ => tl + 1 - (intOf i).toNat)
  case atStart => exact ⟨0, 1, by omega, rfl, rfl, Lib.hid (Below.refl _ _), by omega, by omega, Lib.hid (by rw [HZ.out, HF.out])⟩
  case round =>
   obtain ⟨wo, rfl⟩ : ∃ wo, wo = wr := ⟨_, rfl⟩
   obtain ⟨j, m, hj, rfl, rfl, hbel, hm3, hm4, heq⟩ := hrel
   have q0 := (hbel.out.cell (p := ⟨W.heap.size, 0, none⟩) HS0.out).trans e0
   by_cases hlt : j < tl
   · have hj0 : (0 : Int) ≤ (j : Int) := by omega
     have hjl : (j : Int) < (tl : Int) := by omega
     by_cases hmm : m < most
     · obtain ⟨x, k, n, ats, ks, bl, Aa, ca, Ak, ck, Al, cl, rfl, hbW, htail, c1, c2, c3, c4, c5, l1, l2, l3, l4, HBL⟩ := HBI.out j hlt wo hbel.out
       have HST := Lib.hid (heq.out.trans (nodesA_step htail.out hmm))
       clear heq htail
       have hal : (1 : Int) + (ats.length : Int) + (ks.length : Int) ≤ 27000000000001 := by omega
       obtain ⟨bn, hbn⟩ : ∃ bn, bl.length = bn := ⟨_, rfl⟩
       rw [hbn] at c5 l3 l4
       have HBN := Lib.hid hbn
       clear hbn
       have hge := nodesLA_ge bl most (m + (1 + ats.length + ks.length))
       have HGE := Lib.hid hge
       clear hge
       generalize ats.length = al at *
       generalize ks.length = kl at *
       obtain ⟨W1, hW1⟩ : ∃ W1, wo.alloc (.cells #[.int .i64 k, .int .i64 n, .slice Aa al ca, .slice Ak kl ck, .slice Al bn cl] 60) = W1 := ⟨_, rfl⟩
       have hb1 : Below wo.heap.size wo W1 := by rw [← hW1]; exact (Below.refl _ _).alloc (Nat.le_refl _) _
       have hs1 : wo.heap.size < W1.heap.size := by rw [← hW1]; simp
       have r2 : W1.cell? ⟨wo.heap.size, 2, none⟩ = some (.slice Aa al ca) := by rw [← hW1, World.cell?_alloc_at _ _ _ _ rfl]; rfl
       have r3 : W1.cell? ⟨wo.heap.size, 3, none⟩ = some (.slice Ak kl ck) := by rw [← hW1, World.cell?_alloc_at _ _ _ _ rfl]; rfl
       have r4 : W1.cell? ⟨wo.heap.size, 4, none⟩ = some (.slice Al bn cl) := by rw [← hW1, World.cell?_alloc_at _ _ _ _ rfl]; rfl
       have w1 : IntKind.i64.wrap (1 + (al : Int)) = 1 + (al : Int) := by rw [IntKind.wrap_i64]; omega
       have w2 : IntKind.i64.wrap (1 + (al : Int) + (kl : Int)) = 1 + (al : Int) + (kl : Int) := by rw [IntKind.wrap_i64]; omega
       have w3 : IntKind.i64.wrap (m + (1 + (al : Int) + (kl : Int))) = m + (1 + (al : Int) + (kl : Int)) := by rw [IntKind.wrap_i64]; omega
       go_wp2_with fail
       go_loopw [5, 8] (fun nn kk wr2 => ∃ (q : Nat) (m2 : Int), q ≤ bn ∧ kk = .int .i64 (q : Int) ∧ nn = .int .i64 m2 ∧ Hid (Below W1.heap.size W1 wr2) ∧ 1 ≤ m2 ∧ m2 ≤ 27000000001000 ∧ Hid (nodesLA bl most (m + (1 + (al : Int) + (kl : Int))) = nodesLA (bl.drop q) most m2)) (fun _ kk _ => bn + 1 - (intOf kk).toNat)
       case atStart => exact ⟨0, m + (1 + (al : Int) + (kl : Int)), by omega, rfl, rfl, Lib.hid (Below.refl _ _), by omega, by omega, Lib.hid (by simp)⟩
       case round =>
        obtain ⟨q, m2, hq, rfl, rfl, hbel2, hn1, hn2, heq2⟩ := hrel
        have x4 := (hbel2.out.cell (p := ⟨wo.heap.size, 4, none⟩) hs1).trans r4
        have hbo : Below wo.heap.size wo wr := hb1.trans (hbel2.out.mono hb1.size)
        have HBO := Lib.hid hbo
        clear hbo
        have q0' := (HBO.out.cell (p := ⟨W.heap.size, 0, none⟩) (Nat.lt_of_lt_of_le HS0.out hbel.out.size)).trans q0
        by_cases hlq : q < bn
        · have hq0 : (0 : Int) ≤ (q : Int) := by omega
          have hql : (q : Int) < (bn : Int) := by omega
          by_cases hmq : m2 < most
          · have hqb : q < bl.length := by rw [HBN.out]; exact hlq
            obtain ⟨bb, oo, A0, n0, c0', v0, v1, rfl, y0, y1, y2, hC⟩ := HBL.out q hqb wr HBO.out
            obtain ⟨⟨hk1, hk2⟩, hC1⟩ := hC (most - m2) (by omega) (by omega)
            have HC := Lib.hid hC1
            have HE := Lib.hid (heq2.out.trans (nodesLA_step hqb hmq))
            clear hC hC1 heq2
            generalize nodesA bl[q] (most - m2) 1 = nk at *
            have z1 : IntKind.i64.wrap (most - m2) = most - m2 := by rw [IntKind.wrap_i64]; omega
            have z2 : IntKind.i64.wrap (m2 + nk) = m2 + nk := by rw [IntKind.wrap_i64]; omega
            have z3 : IntKind.i64.wrap ((q : Int) + 1) = (q : Int) + 1 := by rw [IntKind.wrap_i64]; omega
            go_wp2_with (go_at_call 14; refine HC.out.mono ?_; rintro e w' ⟨rfl, hb2⟩)
            go_roundw
            case rel => exact ⟨q + 1, m2 + nk, by omega, by go_num, by first | rfl | go_num, Lib.hid (hbel2.out.trans (hb2.mono hbel2.out.size)), by omega, by omega, HE.out⟩
            case measure => simp [intOf]; omega
          · have HE := Lib.hid (heq2.out.trans (nodesLA_stop hmq))
            clear heq2
            have z3 : IntKind.i64.wrap ((j : Int) + 1) = (j : Int) + 1 := by rw [IntKind.wrap_i64]; omega
            go_wp2_with fail
            go_roundw
            case rel => exact ⟨j + 1, m2, by omega, by go_num, rfl, Lib.hid (hbel.out.trans (HBO.out.mono hbel.out.size)), by omega, by omega, Lib.hid (by rw [HST.out, HE.out])⟩
            case measure => simp [intOf]; omega
        · have hql : ¬ (q : Int) < (bn : Int) := by omega
          have hdr : bl.drop q = [] := List.drop_eq_nil_iff.2 (by rw [HBN.out]; omega)
          have HE := Lib.hid (heq2.out.trans (by rw [hdr]; rfl : _ = m2))
          clear heq2 hdr
          have z3 : IntKind.i64.wrap ((j : Int) + 1) = (j : Int) + 1 := by rw [IntKind.wrap_i64]; omega
          go_wp2_with fail
          go_roundw
          case rel => exact ⟨j + 1, m2, by omega, by go_num, rfl, Lib.hid (hbel.out.trans (HBO.out.mono hbel.out.size)), by omega, by omega, Lib.hid (by rw [HST.out, HE.out])⟩
          case measure => simp [intOf]; omega
     · have hmn : ¬ (m : Int) < most := hmm
       have HE := Lib.hid (heq.out.trans (nodesA_stop hmm))
       clear heq
       go_wp2_with fail
       go_ret
       exact ⟨ret_int (by rw [HE.out]), HB0.out.trans (hbel.out.mono (Nat.le_of_lt HS0.out))⟩
   · have hjl : ¬ (j : Int) < (tl : Int) := by omega
     have HE := Lib.hid (heq.out.trans (by rw [HT.out j (by omega)]; rfl : _ = m))
     clear heq
     go_wp2_with fail
     go_ret
     exact ⟨ret_int (by rw [HE.out]), HB0.out.trans (hbel.out.mono (Nat.le_of_lt HS0.out))⟩
end Go.Proofs.YtnobggabjpcbfaaGreat
