/-
  7 texts of this seat in one: B0 B1 B3 B4 B5 B6 B7.
-/
import Derived.Test.YtnobggabjpcbfaaRows
import Derived.Carry
import Derived.ProofKit
import Derived.OpenShut
import Derived.Deep.DeepHandedRow
import Derived.ChangeArms
import Derived.Test.YtnobggabjpcbfaaQM6
import Derived.Test.YtnobggabjpcbfaaQM8
import Derived.Test.YtnobggabjpcbfaaQM1
/-
  What the claim's reading gives: an argument that reads as a flat program is a flat program in memory, its atoms' numbers 64 bits wide.
-/
set_option linter.unusedVariables false
set_option linter.unusedSimpArgs false
namespace Go.Proofs.Ytnobggabjpcbfaa
open Go.ChangeShapes Go.WideShapes Go.RowKit Go.Maps

/-! ### how much is read -/
theorem bulk_one {H : Type} (d : DataW H) : 1 ≤ Rows.uptoBulk d := by
  cases d with
  | lit l => cases l <;> simp [Rows.uptoBulk]
  | _ => simp [Rows.uptoBulk]
theorem bulk_len {H : Type} : ∀ l : List (DataW H), l.length ≤ Rows.uptoBulkAll l
  | [] => by simp
  | d :: l => by have := bulk_one d; have := bulk_len l; simp only [Rows.uptoBulkAll, List.length_cons]; omega
theorem bulk_mem {H : Type} {d : DataW H} : ∀ {l : List (DataW H)}, d ∈ l → Rows.uptoBulk d ≤ Rows.uptoBulkAll l
  | x :: l, h => by
    simp only [Rows.uptoBulkAll]
    rcases List.mem_cons.1 h with rfl | h
    · omega
    · have := bulk_mem h; omega

section
variable {H : Type} {enc : TypeId × Value → H} {W : World}

theorem cellsInt : Try.prog.cellsOf 3 = 1 := by kernel_rfl
theorem cellsBool : Try.prog.cellsOf 4 = 1 := by kernel_rfl
theorem cellsKind : Try.prog.cellsOf 48 = 1 := by kernel_rfl
theorem cellsInts : Try.prog.cellsOf 30 = 1 := by kernel_rfl
theorem cellsAtom : Try.prog.cellsOf 25 = 2 := by kernel_rfl
theorem cellsAtoms : Try.prog.cellsOf 49 = 1 := by kernel_rfl
theorem cellsBind : Try.prog.cellsOf 54 = 6 := by kernel_rfl
theorem cellsBinds : Try.prog.cellsOf 23 = 1 := by kernel_rfl
theorem cellsRhs : Try.prog.cellsOf 52 = 5 := by kernel_rfl
theorem cellsAnf : Try.prog.cellsOf 27 = 3 := by kernel_rfl
theorem cellsAnfs : Try.prog.cellsOf 50 = 1 := by kernel_rfl
theorem cellsFun : Try.prog.cellsOf 42 = 5 := by kernel_rfl
theorem cellsFuns : Try.prog.cellsOf 22 = 1 := by kernel_rfl
theorem cellsFlat : Try.prog.cellsOf 29 = 4 := by kernel_rfl

set_option maxRecDepth 100000 in
/-- ints that are read lie in memory -/
theorem ints_of_trod {n : Nat} {c : Value} {x : DataW H × List MemPlace} (h : DataW.trod enc Try.prog W 0 (fun _ => true) true n 30 [c] = some x) (hb : Rows.uptoBulk x.1 ≤ 1048576) :
    ∃ (A : Option Addr) (cap : Nat) (ks : List Int), c = .slice A ks.length cap ∧ IntsIn W.heap.size W A ks ∧ ks.length ≤ cap ∧ ks.length ≤ 1048576 := by
  rcases open_ints Try.underlying30 Try.underlying3 cellsInt h with ⟨hc, rfl⟩ | ⟨a, len, cap, zs, hc, _, hlc, _, hzl, hx, hcell, hwf⟩
  · obtain rfl : c = .slice none 0 0 := by simpa using hc
    exact ⟨none, 0, [], rfl, ⟨by simp, .inl rfl⟩, by simp, by simp⟩
  · obtain rfl : c = .slice (some a) len cap := by simpa using hc
    simp only [if_true] at hzl
    have hlen : (zs.take len).length = len := by simp; omega
    have hbl : len ≤ 1048576 := by
      rw [hx] at hb
      have h1 := bulk_len (lits (H := H) .i64 (zs.take len))
      simp only [Rows.uptoBulk] at hb
      have h2 : (lits (H := H) .i64 (zs.take len)).length = len := by simp [lits]; omega
      omega
    refine ⟨some a, cap, zs.take len, by rw [hlen], ⟨by rw [hlen]; omega, ?_⟩, by rw [hlen]; exact hlc, by rw [hlen]; exact hbl⟩
    by_cases h0 : len = 0
    · left; simp [h0]
    · right
      have c0 := hcell 0 (by omega)
      obtain ⟨b, o, spot⟩ := a
      have hspot : spot = none := by simpa [Addr.add] using World.cell?_spot c0
      subst hspot
      have hadd : ∀ i, (⟨b, o, none⟩ : Addr).add i = ⟨b, o + i, none⟩ := fun i => by unfold Addr.add; split <;> simp_all
      rw [hadd] at c0
      refine ⟨b, o, rfl, World.block_lt_of_cell? _ _ c0, fun j hj => ?_⟩
      rw [hlen] at hj
      have := hcell j (by omega)
      rw [hadd] at this
      rw [this, nth_take _ hj]
      simp [nth, List.getD]

set_option maxRecDepth 100000 in
/-- a slice that is read: each element's cells, and what its own reading says -/
theorem rows_of_trod {T e : TypeId} {c n : Nat} {v : Value} {x : DataW H × List MemPlace} {Q : List Value → Prop} (ht : Try.prog.underlying T = some (.slice e)) (hc : Try.prog.cellsOf e = c) (hc0 : 0 < c)
    (h : DataW.trod enc Try.prog W 0 (fun _ => true) true n T [v] = some x) (hb : Rows.uptoBulk x.1 ≤ 1048576)
    (hQ : ∀ (q : Nat) (cs : List Value) (y : DataW H × List MemPlace), q < n → DataW.trod enc Try.prog W 0 (fun _ => true) true q e cs = some y → Rows.uptoBulk y.1 ≤ 1048576 → Q cs) :
    ∃ (A : Option Addr) (len cap b o : Nat), v = .slice A len cap ∧ len ≤ cap ∧ len ≤ 1048576 ∧ (0 < len → A = some ⟨b, o, none⟩ ∧ b < W.heap.size) ∧
      ∀ i, i < len → ∃ cs : List Value, Q cs ∧ ∀ k, k < c → W.cell? ⟨b, o + i * c + k, none⟩ = cs[k]? := by
  rcases DataW.trod_slice ht h with ⟨he, hx3⟩ | ⟨ad, len, cap, elems, rest, q, hn, he, hx3, _, hlc, _, hlen, hel, _⟩
  · obtain rfl : v = .slice none 0 0 := by simpa using he
    exact ⟨none, 0, 0, 0, 0, rfl, Nat.le_refl _, by omega, by omega, by omega⟩
  · obtain rfl : v = .slice (some ad) len cap := by simpa using he
    rw [hx3] at hb
    simp only [Rows.uptoBulk] at hb
    have hbl : len ≤ 1048576 := by
      have := bulk_len (elems.map (·.1))
      simp [hlen] at this
      omega
    rw [hc] at hel
    have each : ∀ i, i < len → ∃ cs : List Value, Q cs ∧ ∀ k, k < c → W.cell? ((ad.add (i * c)).add k) = cs[k]? := by
      intro i hi
      have h1 := hel i hi
      rw [List.getElem?_eq_getElem (by omega), Option.bind_eq_some_iff] at h1
      obtain ⟨cs', hcs, hy⟩ := h1
      have hmem : Rows.uptoBulk (elems[i]'(by omega)).1 ≤ Rows.uptoBulkAll (elems.map (·.1)) := bulk_mem (List.mem_map.2 ⟨_, List.getElem_mem _, rfl⟩)
      obtain ⟨_, hcl, hcell⟩ := World.cells?_some hcs
      exact ⟨cs', hQ q cs' _ (by omega) hy (by omega), fun k hk => hcell k hk⟩
    by_cases h0 : len = 0
    · subst h0
      exact ⟨some ad, 0, cap, 0, 0, rfl, Nat.zero_le _, by omega, by omega, by omega⟩
    · obtain ⟨bb, oo, spot⟩ := ad
      have hsome : ∃ u, W.cell? (((⟨bb, oo, spot⟩ : Addr).add (0 * c)).add 0) = some u := by
        have h1 := hel 0 (by omega)
        rw [List.getElem?_eq_getElem (by omega), Option.bind_eq_some_iff] at h1
        obtain ⟨cs', hcs, hy⟩ := h1
        obtain ⟨hcl, _, hcell⟩ := World.cells?_some hcs
        have h2 := hcell 0 hc0
        rw [List.getElem?_eq_getElem (by omega)] at h2
        exact ⟨_, h2⟩
      obtain ⟨u, hu⟩ := hsome
      have hspot : spot = none := by simpa [Addr.add] using World.cell?_spot hu
      subst hspot
      have hadd : ∀ o i, (⟨bb, o, none⟩ : Addr).add i = ⟨bb, o + i, none⟩ := fun o i => by unfold Addr.add; split <;> simp_all
      simp only [hadd] at each hu
      exact ⟨_, len, cap, bb, oo, rfl, hlc, hbl, fun _ => ⟨rfl, World.block_lt_of_cell? _ _ hu⟩, each⟩

set_option maxRecDepth 100000 in
theorem atom_of_trod {n : Nat} {cs : List Value} {x : DataW H × List MemPlace} (h : DataW.trod enc Try.prog W 0 (fun _ => true) true n 25 cs = some x) : ∃ a : Atm, cs = [.bool a.v, .int .i64 a.n] ∧ In64 a.n := by
  obtain ⟨xs, m, rfl, rfl, hl, hxl, hf⟩ := DataW.trod_struct Try.underlying25 h
  rw [cellsAtom] at hl
  match cs, hl with
  | [a, b], _ =>
    have f0 := hf 0 _ rfl
    have f1 := hf 1 _ rfl
    match xs, hxl with
    | [x0, x1], _ =>
      change DataW.trod enc Try.prog W 0 (fun _ => true) true m 4 (([a, b].drop 0).take (Try.prog.cellsOf 4)) = some x0 at f0
      rw [cellsBool] at f0
      change DataW.trod enc Try.prog W 0 (fun _ => true) true m 3 (([a, b].drop 1).take (Try.prog.cellsOf 3)) = some x1 at f1
      rw [cellsInt] at f1
      simp only [List.drop_succ_cons, List.drop_zero, List.take_succ_cons, List.take_zero] at f0 f1
      obtain ⟨v, hv, _⟩ := DataW.trod_bool Try.underlying4 f0
      obtain ⟨k, hk, _, hw⟩ := DataW.trod_int Try.underlying3 f1
      obtain rfl : a = .bool v := by simpa using hv
      obtain rfl : b = .int .i64 k := by simpa using hk
      exact ⟨⟨v, k⟩, rfl, hw⟩
set_option maxRecDepth 100000 in
/-- atoms that are read lie in memory -/
theorem atoms_of_trod {n : Nat} {v : Value} {x : DataW H × List MemPlace} (h : DataW.trod enc Try.prog W 0 (fun _ => true) true n 49 [v] = some x) (hb : Rows.uptoBulk x.1 ≤ 1048576) :
    ∃ (A : Option Addr) (cap : Nat) (ats : List Atm), v = .slice A ats.length cap ∧ AtomsIn W.heap.size W A ats ∧ ats.length ≤ cap ∧ ∀ a ∈ ats, In64 a.n := by
  obtain ⟨A, len, cap, b, o, rfl, hlc, hl, hA, hel⟩ := rows_of_trod (Q := fun cs => ∃ a : Atm, cs = [.bool a.v, .int .i64 a.n] ∧ In64 a.n) Try.underlying49 cellsAtom (by omega) h hb (fun q cs y _ hy _ => atom_of_trod hy)
  have each : ∀ i : Nat, ∃ a : Atm, i < len → W.cell? ⟨b, o + i * 2, none⟩ = some (.bool a.v) ∧ W.cell? ⟨b, o + i * 2 + 1, none⟩ = some (.int .i64 a.n) ∧ In64 a.n := fun i => by
    by_cases hi : i < len
    · obtain ⟨cs, ⟨a, rfl, ha⟩, hc⟩ := hel i hi
      exact ⟨a, fun _ => ⟨hc 0 (by omega), hc 1 (by omega), ha⟩⟩
    · exact ⟨default, fun h => absurd h hi⟩
  obtain ⟨P, hP⟩ := Classical.axiomOfChoice each
  have hlen : ((List.range len).map P).length = len := by simp
  refine ⟨A, cap, (List.range len).map P, by rw [hlen], ⟨by rw [hlen]; omega, ?_⟩, by rw [hlen]; exact hlc, fun a ha => ?_⟩
  · by_cases h0 : len = 0
    · left; simp [h0]
    · right
      obtain ⟨rfl, hbl⟩ := hA (by omega)
      refine ⟨b, o, rfl, hbl, fun j hj => ?_⟩
      rw [hlen] at hj
      have hg : ((List.range len).map P)[j]? = some (P j) := by simp [hj]
      rw [hg]
      exact ⟨(hP j hj).1, (hP j hj).2.1⟩
  · obtain ⟨i, hi, rfl⟩ := List.mem_map.1 ha
    exact (hP i (by simpa using hi)).2.2
end
end Go.Proofs.Ytnobggabjpcbfaa

/-
  What the claim's reading gives, its second part: bodies and flat programs.
-/
set_option linter.unusedVariables false
set_option linter.unusedSimpArgs false
namespace Go.Proofs.Ytnobggabjpcbfaa
open Go.ChangeShapes Go.WideShapes Go.RowKit Go.Maps

theorem rngL_of : ∀ {l : List Anf}, (∀ c ∈ l, rngA c) → rngL l
  | [], _ => by unfold rngL; trivial
  | c :: cs, h => by
    unfold rngL
    exact ⟨h c (by simp), rngL_of (fun d hd => h d (by simp [hd]))⟩
/-- a bind's six cells, and what they lead to -/
def BindQ (B : Nat) (w : World) (cs : List Value) : Prop :=
  ∃ (x k n : Int) (ats : List Atm) (ks : List Int) (bl : List Anf) (Aa Ak Al : Option Addr) (ca ck cl bb oo : Nat) (AB : Nat → Option Addr) (CB BB OO : Nat → Nat),
    cs = [.int .i64 x, .int .i64 k, .int .i64 n, .slice Aa ats.length ca, .slice Ak ks.length ck, .slice Al bl.length cl] ∧
    AtomsIn B w Aa ats ∧ ats.length ≤ ca ∧ IntsIn B w Ak ks ∧ ks.length ≤ ck ∧ bl.length ≤ cl ∧ bl.length * 40 ≤ 140737488351232 ∧ (0 < bl.length → Al = some ⟨bb, oo, none⟩ ∧ bb < B) ∧
    (∀ j (h : j < bl.length), w.cell? ⟨bb, oo + j * 3, none⟩ = some (.slice (AB j) bl[j].len (CB j))) ∧ (∀ j (h : j < bl.length), w.cell? ⟨bb, oo + j * 3 + 1, none⟩ = some (.bool bl[j].last.v)) ∧ (∀ j (h : j < bl.length), w.cell? ⟨bb, oo + j * 3 + 2, none⟩ = some (.int .i64 bl[j].last.n)) ∧
    (∀ j (h : j < bl.length), bl[j].len ≤ CB j ∧ bl[j].len * 96 ≤ 140737488351232 ∧ (0 < bl[j].len → AB j = some ⟨BB j, OO j, none⟩)) ∧ (∀ j (h : j < bl.length), AnfAt B w (BB j) (OO j) 0 bl[j]) ∧
    (∀ a ∈ ats, In64 a.n) ∧ rngL bl
theorem chain_of {B : Nat} {w : World} {b o len : Nat} (a : Atm) (ha : In64 a.n) (hbB : 0 < len → b < B) (hel : ∀ i, i < len → ∃ cs : List Value, BindQ B w cs ∧ ∀ k, k < 6 → w.cell? ⟨b, o + i * 6 + k, none⟩ = cs[k]?) :
    ∀ d i, i + d = len → ∃ t : Anf, AnfAt B w b o i t ∧ t.len = d ∧ t.last = a ∧ rngA t := by
  intro d
  induction d with
  | zero => intro i _; exact ⟨.ret a, .ret _ _ _ _, rfl, rfl, ha⟩
  | succ d ih =>
    intro i hi
    obtain ⟨t, h1, h2, h3, h4⟩ := ih (i + 1) (by omega)
    obtain ⟨cs, ⟨x, k, n, ats, ks, bl, Aa, Ak, Al, ca, ck, cl, bb, oo, AB, CB, BB, OO, rfl, q1, q2, q3, q4, q5, q6, q7, q8, q9, q10, q11, q12, q13, q14⟩, hc⟩ := hel i (by omega)
    refine ⟨.bind x k n ats ks bl t, .bind (hbB (by omega)) (hc 0 (by omega)) (hc 1 (by omega)) (hc 2 (by omega)) (hc 3 (by omega)) (hc 4 (by omega)) (hc 5 (by omega)) q1 q2 q3 q4 q5 q6 q7 q8 q9 q10 q11 q12 h1, by simp [Anf.len, h2], by simp [Anf.last, h3], ?_⟩
    unfold rngA
    exact ⟨q13, q14, h4⟩

section
variable {H : Type} {enc : TypeId × Value → H} {W : World}
/-- a body's reading -/
def AnfQ (W : World) (cs : List Value) : Prop := ∃ (t : Anf) (v0 v1 v2 : Value), cs = [v0, v1, v2] ∧ BodyIn W.heap.size W t #[v0, v1, v2] ∧ rngA t

set_option maxRecDepth 100000 in
theorem rhs_of_trod {n : Nat} {cs : List Value} {x : DataW H × List MemPlace} (h : DataW.trod enc Try.prog W 0 (fun _ => true) true n 52 cs = some x) (hb : Rows.uptoBulk x.1 ≤ 1048576)
    (ih : ∀ (q : Nat) (cs : List Value) (y : DataW H × List MemPlace), q < n → DataW.trod enc Try.prog W 0 (fun _ => true) true q 27 cs = some y → Rows.uptoBulk y.1 ≤ 1048576 → AnfQ W cs) (k : Int) :
    BindQ W.heap.size W (.int .i64 k :: cs) := by
  obtain ⟨xs, m, rfl, rfl, hl, hxl, hf⟩ := DataW.trod_struct Try.underlying52 h
  rw [cellsRhs] at hl
  match cs, hl with
  | [a, b, c, d, e], _ =>
    have f0 := hf 0 _ rfl
    have f1 := hf 1 _ rfl
    have f2 := hf 2 _ rfl
    have f3 := hf 3 _ rfl
    have f4 := hf 4 _ rfl
    match xs, hxl with
    | [x0, x1, x2, x3, x4], _ =>
      change DataW.trod enc Try.prog W 0 (fun _ => true) true m 48 (([a, b, c, d, e].drop 0).take (Try.prog.cellsOf 48)) = some x0 at f0
      rw [cellsKind] at f0
      change DataW.trod enc Try.prog W 0 (fun _ => true) true m 3 (([a, b, c, d, e].drop 1).take (Try.prog.cellsOf 3)) = some x1 at f1
      rw [cellsInt] at f1
      change DataW.trod enc Try.prog W 0 (fun _ => true) true m 49 (([a, b, c, d, e].drop 2).take (Try.prog.cellsOf 49)) = some x2 at f2
      rw [cellsAtoms] at f2
      change DataW.trod enc Try.prog W 0 (fun _ => true) true m 30 (([a, b, c, d, e].drop 3).take (Try.prog.cellsOf 30)) = some x3 at f3
      rw [cellsInts] at f3
      change DataW.trod enc Try.prog W 0 (fun _ => true) true m 50 (([a, b, c, d, e].drop 4).take (Try.prog.cellsOf 50)) = some x4 at f4
      rw [cellsAnfs] at f4
      simp only [List.drop_succ_cons, List.drop_zero, List.take_succ_cons, List.take_zero] at f0 f1 f2 f3 f4
      simp only [List.map_cons, List.map_nil, Rows.uptoBulk, Rows.uptoBulkAll] at hb
      obtain ⟨kk, hk, _, _⟩ := DataW.trod_int Try.underlying48 f0
      obtain ⟨nn, hn, _, _⟩ := DataW.trod_int Try.underlying3 f1
      obtain rfl : a = .int .i64 kk := by simpa using hk
      obtain rfl : b = .int .i64 nn := by simpa using hn
      obtain ⟨Aa, ca, ats, rfl, q1, q2, q13⟩ := atoms_of_trod f2 (by omega)
      obtain ⟨Ak, ck, ks, rfl, q3, q4, _⟩ := ints_of_trod f3 (by omega)
      obtain ⟨Al, len, cl, bb, oo, rfl, hlc, hll, hA, hel⟩ := rows_of_trod (Q := AnfQ W) Try.underlying50 cellsAnf (by omega) f4 (by omega) (fun q cs y hq hy hby => ih q cs y (by omega) hy hby)
      have each : ∀ i : Nat, ∃ p : Anf × Option Addr × Nat × Nat × Nat, i < len → W.cell? ⟨bb, oo + i * 3, none⟩ = some (.slice p.2.1 p.1.len p.2.2.1) ∧ W.cell? ⟨bb, oo + i * 3 + 1, none⟩ = some (.bool p.1.last.v) ∧ W.cell? ⟨bb, oo + i * 3 + 2, none⟩ = some (.int .i64 p.1.last.n) ∧
          (p.1.len ≤ p.2.2.1 ∧ p.1.len * 96 ≤ 140737488351232 ∧ (0 < p.1.len → p.2.1 = some ⟨p.2.2.2.1, p.2.2.2.2, none⟩)) ∧ AnfAt W.heap.size W p.2.2.2.1 p.2.2.2.2 0 p.1 ∧ rngA p.1 := fun i => by
        by_cases hi : i < len
        · obtain ⟨cs, ⟨t, v0, v1, v2, rfl, ⟨A, c, b, o, hv, h2, h3, h4, h5⟩, hr⟩, hc⟩ := hel i hi
          simp only [Array.mk.injEq, List.cons.injEq, and_true] at hv
          obtain ⟨rfl, rfl, rfl⟩ := hv
          exact ⟨(t, A, c, b, o), fun _ => ⟨hc 0 (by omega), hc 1 (by omega), hc 2 (by omega), ⟨h2, h3, h4⟩, h5, hr⟩⟩
        · exact ⟨default, fun h => absurd h hi⟩
      obtain ⟨P, hP⟩ := Classical.axiomOfChoice each
      have hlen : ((List.range len).map fun i => (P i).1).length = len := by simp
      have hget : ∀ j (h : j < ((List.range len).map fun i => (P i).1).length), ((List.range len).map fun i => (P i).1)[j] = (P j).1 := fun j h => by simp
      refine ⟨k, kk, nn, ats, ks, (List.range len).map fun i => (P i).1, Aa, Ak, Al, ca, ck, cl, bb, oo, fun j => (P j).2.1, fun j => (P j).2.2.1, fun j => (P j).2.2.2.1, fun j => (P j).2.2.2.2, by rw [hlen], q1, q2, q3, q4, by rw [hlen]; exact hlc, by rw [hlen]; omega, by rw [hlen]; exact hA, ?_, ?_, ?_, ?_, ?_, q13, ?_⟩
      · intro j h; rw [hget j h]; exact (hP j (by rwa [hlen] at h)).1
      · intro j h; rw [hget j h]; exact (hP j (by rwa [hlen] at h)).2.1
      · intro j h; rw [hget j h]; exact (hP j (by rwa [hlen] at h)).2.2.1
      · intro j h; rw [hget j h]; exact (hP j (by rwa [hlen] at h)).2.2.2.1
      · intro j h; rw [hget j h]; exact (hP j (by rwa [hlen] at h)).2.2.2.2.1
      · refine rngL_of (fun c hc => ?_)
        obtain ⟨i, hi, rfl⟩ := List.mem_map.1 hc
        exact (hP i (by simpa using hi)).2.2.2.2.2

set_option maxRecDepth 100000 in
theorem bind_of_trod {n : Nat} {cs : List Value} {x : DataW H × List MemPlace} (h : DataW.trod enc Try.prog W 0 (fun _ => true) true n 54 cs = some x) (hb : Rows.uptoBulk x.1 ≤ 1048576)
    (ih : ∀ (q : Nat) (cs : List Value) (y : DataW H × List MemPlace), q < n → DataW.trod enc Try.prog W 0 (fun _ => true) true q 27 cs = some y → Rows.uptoBulk y.1 ≤ 1048576 → AnfQ W cs) :
    BindQ W.heap.size W cs := by
  obtain ⟨xs, m, rfl, rfl, hl, hxl, hf⟩ := DataW.trod_struct Try.underlying54 h
  rw [cellsBind] at hl
  match cs, hl with
  | [z, a, b, c, d, e], _ =>
    have f0 := hf 0 _ rfl
    have f1 := hf 1 _ rfl
    match xs, hxl with
    | [x0, x1], _ =>
      change DataW.trod enc Try.prog W 0 (fun _ => true) true m 3 (([z, a, b, c, d, e].drop 0).take (Try.prog.cellsOf 3)) = some x0 at f0
      rw [cellsInt] at f0
      change DataW.trod enc Try.prog W 0 (fun _ => true) true m 52 (([z, a, b, c, d, e].drop 1).take (Try.prog.cellsOf 52)) = some x1 at f1
      rw [cellsRhs] at f1
      simp only [List.drop_succ_cons, List.drop_zero, List.take_succ_cons, List.take_zero] at f0 f1
      simp only [List.map_cons, List.map_nil, Rows.uptoBulk, Rows.uptoBulkAll] at hb
      obtain ⟨k, hk, _, _⟩ := DataW.trod_int Try.underlying3 f0
      obtain rfl : z = .int .i64 k := by simpa using hk
      exact rhs_of_trod f1 (by omega) (fun q cs y hq => ih q cs y (by omega)) k

set_option maxRecDepth 100000 in
theorem anf_of_trod : ∀ (n : Nat) (cs : List Value) (x : DataW H × List MemPlace), DataW.trod enc Try.prog W 0 (fun _ => true) true n 27 cs = some x → Rows.uptoBulk x.1 ≤ 1048576 → AnfQ W cs := by
  intro n
  induction n using Nat.strongRecOn with
  | _ n ih =>
    intro cs x h hb
    obtain ⟨xs, m, rfl, rfl, hl, hxl, hf⟩ := DataW.trod_struct Try.underlying27 h
    rw [cellsAnf] at hl
    match cs, hl with
    | [a, b, c], _ =>
      have f0 := hf 0 _ rfl
      have f1 := hf 1 _ rfl
      match xs, hxl with
      | [x0, x1], _ =>
        change DataW.trod enc Try.prog W 0 (fun _ => true) true m 23 (([a, b, c].drop 0).take (Try.prog.cellsOf 23)) = some x0 at f0
        rw [cellsBinds] at f0
        change DataW.trod enc Try.prog W 0 (fun _ => true) true m 25 (([a, b, c].drop 1).take (Try.prog.cellsOf 25)) = some x1 at f1
        rw [cellsAtom] at f1
        simp only [List.drop_succ_cons, List.drop_zero, List.take_succ_cons, List.take_zero] at f0 f1
        simp only [List.map_cons, List.map_nil, Rows.uptoBulk, Rows.uptoBulkAll] at hb
        obtain ⟨at_, hat, hin⟩ := atom_of_trod f1
        obtain ⟨rfl, rfl⟩ : b = .bool at_.v ∧ c = .int .i64 at_.n := by simpa using hat
        obtain ⟨A, len, cap, bb, oo, rfl, hlc, hll, hA, hel⟩ := rows_of_trod (Q := BindQ W.heap.size W) Try.underlying23 cellsBind (by omega) f0 (by omega) (fun q cs y hq hy hby => bind_of_trod hy hby (fun q2 cs2 y2 hq2 => ih q2 (by omega) cs2 y2))
        obtain ⟨t, h1, h2, h3, h4⟩ := chain_of at_ hin (fun h => (hA h).2) hel len 0 (by omega)
        exact ⟨t, _, _, _, rfl, ⟨A, cap, bb, oo, by rw [h2, h3], by omega, by omega, fun h => (hA (by omega)).1, h1⟩, h4⟩

/-- a function's reading -/
def FunQ (W : World) (cs : List Value) : Prop := ∃ (g : FFun) (v0 v1 v2 : Value), cs = [.int .i64 g.env, .int .i64 g.param, v0, v1, v2] ∧ BodyIn W.heap.size W g.body #[v0, v1, v2] ∧ rngA g.body
set_option maxRecDepth 100000 in
theorem fun_of_trod {n : Nat} {cs : List Value} {x : DataW H × List MemPlace} (h : DataW.trod enc Try.prog W 0 (fun _ => true) true n 42 cs = some x) (hb : Rows.uptoBulk x.1 ≤ 1048576) : FunQ W cs := by
  obtain ⟨xs, m, rfl, rfl, hl, hxl, hf⟩ := DataW.trod_struct Try.underlying42 h
  rw [cellsFun] at hl
  match cs, hl with
  | [a, b, c, d, e], _ =>
    have f0 := hf 0 _ rfl
    have f1 := hf 1 _ rfl
    have f2 := hf 2 _ rfl
    match xs, hxl with
    | [x0, x1, x2], _ =>
      change DataW.trod enc Try.prog W 0 (fun _ => true) true m 3 (([a, b, c, d, e].drop 0).take (Try.prog.cellsOf 3)) = some x0 at f0
      rw [cellsInt] at f0
      change DataW.trod enc Try.prog W 0 (fun _ => true) true m 3 (([a, b, c, d, e].drop 1).take (Try.prog.cellsOf 3)) = some x1 at f1
      rw [cellsInt] at f1
      change DataW.trod enc Try.prog W 0 (fun _ => true) true m 27 (([a, b, c, d, e].drop 2).take (Try.prog.cellsOf 27)) = some x2 at f2
      rw [cellsAnf] at f2
      simp only [List.drop_succ_cons, List.drop_zero, List.take_succ_cons, List.take_zero] at f0 f1 f2
      simp only [List.map_cons, List.map_nil, Rows.uptoBulk, Rows.uptoBulkAll] at hb
      obtain ⟨k0, hk0, _, _⟩ := DataW.trod_int Try.underlying3 f0
      obtain ⟨k1, hk1, _, _⟩ := DataW.trod_int Try.underlying3 f1
      obtain rfl : a = .int .i64 k0 := by simpa using hk0
      obtain rfl : b = .int .i64 k1 := by simpa using hk1
      obtain ⟨t, v0, v1, v2, hv, hin, hr⟩ := anf_of_trod m _ _ f2 (by omega)
      obtain ⟨rfl, rfl, rfl⟩ : c = v0 ∧ d = v1 ∧ e = v2 := by simpa using hv
      exact ⟨⟨k0, k1, t⟩, _, _, _, rfl, hin, hr⟩

set_option maxRecDepth 100000 in
/-- a flat program that is read lies in memory -/
theorem flat_of_trod {n : Nat} {cs : List Value} {x : DataW H × List MemPlace} (h : DataW.trod enc Try.prog W 0 (fun _ => true) true n 29 cs = some x) (hb : Rows.uptoBulk x.1 ≤ 1048576) :
    ∃ (p : FlatP) (v0 v1 v2 v3 : Value), cs = [v0, v1, v2, v3] ∧ FlatIn W.heap.size W p #[v0, v1, v2, v3] ∧ ((∀ g ∈ p.funs, rngA g.body) ∧ rngA p.main) ∧ p.funs.length ≤ 1048576 := by
  obtain ⟨xs, m, rfl, rfl, hl, hxl, hf⟩ := DataW.trod_struct Try.underlying29 h
  rw [cellsFlat] at hl
  match cs, hl with
  | [a, b, c, d], _ =>
    have f0 := hf 0 _ rfl
    have f1 := hf 1 _ rfl
    match xs, hxl with
    | [x0, x1], _ =>
      change DataW.trod enc Try.prog W 0 (fun _ => true) true m 22 (([a, b, c, d].drop 0).take (Try.prog.cellsOf 22)) = some x0 at f0
      rw [cellsFuns] at f0
      change DataW.trod enc Try.prog W 0 (fun _ => true) true m 27 (([a, b, c, d].drop 1).take (Try.prog.cellsOf 27)) = some x1 at f1
      rw [cellsAnf] at f1
      simp only [List.drop_succ_cons, List.drop_zero, List.take_succ_cons, List.take_zero] at f0 f1
      simp only [List.map_cons, List.map_nil, Rows.uptoBulk, Rows.uptoBulkAll] at hb
      obtain ⟨t, v0, v1, v2, hv, hin, hr⟩ := anf_of_trod m _ _ f1 (by omega)
      obtain ⟨rfl, rfl, rfl⟩ : b = v0 ∧ c = v1 ∧ d = v2 := by simpa using hv
      obtain ⟨A, len, cap, bb, oo, rfl, hlc, hll, hA, hel⟩ := rows_of_trod (Q := FunQ W) Try.underlying22 cellsFun (by omega) f0 (by omega) (fun q cs y hq hy hby => fun_of_trod hy hby)
      have each : ∀ i : Nat, ∃ p : FFun × Value × Value × Value, i < len → W.cell? ⟨bb, oo + i * 5, none⟩ = some (.int .i64 p.1.env) ∧ W.cell? ⟨bb, oo + i * 5 + 1, none⟩ = some (.int .i64 p.1.param) ∧ W.cell? ⟨bb, oo + i * 5 + 2, none⟩ = some p.2.1 ∧ W.cell? ⟨bb, oo + i * 5 + 3, none⟩ = some p.2.2.1 ∧ W.cell? ⟨bb, oo + i * 5 + 4, none⟩ = some p.2.2.2 ∧
          BodyIn W.heap.size W p.1.body #[p.2.1, p.2.2.1, p.2.2.2] ∧ rngA p.1.body := fun i => by
        by_cases hi : i < len
        · obtain ⟨cs, ⟨g, v0, v1, v2, rfl, hg, hr⟩, hc⟩ := hel i hi
          exact ⟨(g, v0, v1, v2), fun _ => ⟨hc 0 (by omega), hc 1 (by omega), hc 2 (by omega), hc 3 (by omega), hc 4 (by omega), hg, hr⟩⟩
        · exact ⟨(default, .nilIface, .nilIface, .nilIface), fun h => absurd h hi⟩
      obtain ⟨P, hP⟩ := Classical.axiomOfChoice each
      have hlen : ((List.range len).map fun i => (P i).1).length = len := by simp
      refine ⟨⟨(List.range len).map fun i => (P i).1, t⟩, _, _, _, _, rfl, ⟨A, cap, bb, oo, _, _, _, by rw [hlen], by rw [hlen]; exact hlc, by rw [hlen]; omega, hin, by rw [hlen]; exact hA, ?_⟩, ⟨?_, hr⟩, by rw [hlen]; exact hll⟩
      · intro j h
        rw [hlen] at h
        have hget : ((List.range len).map fun i => (P i).1)[j] = (P j).1 := by simp
        obtain ⟨q0, q1, q2, q3, q4, q5, _⟩ := hP j h
        exact ⟨_, _, _, by rw [hget]; exact q0, by rw [hget]; exact q1, q2, q3, q4, by rw [hget]; exact q5⟩
      · intro g hg
        obtain ⟨i, hi, rfl⟩ := List.mem_map.1 hg
        exact (hP i (by simpa using hi)).2.2.2.2.2.2

set_option maxRecDepth 100000 in
theorem open_flat2 {r : Reach} {b0 : Nat} {v : Value} {d : DataW H} {ps : List MemPlace} (hval : Value.okWide Try.prog W r b0 29 v) (hd : DataW.Trod enc Try.prog W 0 (fun _ => true) true 29 v d ps) (hb : Rows.uptoBulk d ≤ 1048576) :
    ∃ p cs, v = .agg cs ∧ FlatIn W.heap.size W p cs ∧ ((∀ g ∈ p.funs, rngA g.body) ∧ rngA p.main) ∧ p.funs.length ≤ 1048576 := by
  obtain ⟨cs, rfl, _⟩ := okWide_struct Try.underlying29 hval
  obtain ⟨fuel, hf⟩ := hd
  obtain ⟨p, v0, v1, v2, v3, hcs, hin, hh⟩ := flat_of_trod hf hb
  obtain rfl : cs = #[v0, v1, v2, v3] := by
    have : cs.toList = [v0, v1, v2, v3] := by simpa [Value.cells] using hcs
    cases cs; simp_all
  exact ⟨p, _, rfl, hin, hh⟩
set_option maxRecDepth 100000 in
theorem open_intsV {r : Reach} {b0 : Nat} {v : Value} {d : DataW H} {ps : List MemPlace} (hval : Value.okWide Try.prog W r b0 30 v) (hd : DataW.Trod enc Try.prog W 0 (fun _ => true) true 30 v d ps) (hb : Rows.uptoBulk d ≤ 1048576) :
    ∃ (A : Option Addr) (cap : Nat) (ks : List Int), v = .slice A ks.length cap ∧ IntsIn W.heap.size W A ks ∧ ks.length ≤ cap ∧ ks.length ≤ 1048576 := by
  obtain ⟨a, len, cap, rfl⟩ := okWide_slice Try.underlying30 hval
  obtain ⟨fuel, hf⟩ := hd
  exact ints_of_trod (c := .slice a len cap) (by simpa [Value.cells] using hf) hb
end
theorem bound {H : Type} {l : List (DataW H)} (hk : Rows.uptoSmall H l = true) : Rows.uptoBulkAll l ≤ 1048576 := by
  simpa [Rows.uptoSmall] using hk
set_option maxRecDepth 100000 in
theorem own : ownKnob Try.prog.godebug = none := by kernel_rfl
end Go.Proofs.Ytnobggabjpcbfaa

/-
  What the claim asks behind the call: true, and the arguments read as they did.
-/
set_option linter.unusedVariables false
set_option linter.unusedSimpArgs false
namespace Go.Proofs.Ytnobggabjpcbfaa
open Go.ChangeShapes Go.WideShapes Go.RowKit

theorem laidOut : laidOutB Try.prog = true := by kernel_rfl

/-- arguments read behind the call as they did -/
theorem args_again {H : Type} {enc : TypeId × Value → H} {W W' : World} (hb : Below W.heap.size W W') : ∀ {ts : List TypeId} {vs : List Value} {ds : List (DataW H)} {ps : List MemPlace} (hts : ∀ t ∈ ts, Try.prog.readableRec t = true ∧ t < Try.prog.types.size) (h : DataW.TrodAll enc Try.prog W 0 (fun _ => true) true ts vs ds ps)
    (hlt : ∀ x ∈ ps, x.block < W.heap.size) (sp : Nat → Bool) (hsp : ∀ x ∈ ps, sp x.block = true), DataW.TrodAll enc Try.prog W' 0 sp true ts vs ds ps
  | [], [], [], _, _, h, _, _, _ => h
  | _ :: _, _ :: _, _ :: _, _, hts, ⟨p, q, h1, h2, e⟩, hlt, sp, hsp =>
    ⟨p, q, WideElems.Trod_stays laidOut (hts _ (List.mem_cons_self ..)).1 (hts _ (List.mem_cons_self ..)).2 h1 (fun x hx => hb.same (hlt x (by rw [e]; exact List.mem_append_left _ hx))) (fun x hx => hsp x (by rw [e]; exact List.mem_append_left _ hx)),
      args_again hb (fun t ht => hts t (List.mem_cons_of_mem _ ht)) h2 (fun x hx => hlt x (by rw [e]; exact List.mem_append_right _ hx)) sp (fun x hx => hsp x (by rw [e]; exact List.mem_append_right _ hx)), e⟩

set_option maxRecDepth 100000 in
theorem post_true {H : Type} {enc : TypeId × Value → H} {f : Func} {s : ChangeSpec} {W W' : World} {args : Array Value} {ds : List (DataW H)} {before : List MemPlace} (hts : ∀ t ∈ f.params.toList, Try.prog.readableRec t = true ∧ t < Try.prog.types.size) (hv : s.vars = [])
    (hW : DataW.Whole enc Try.prog f.params.toList s.vars false W args.toList ds [] before) (hs : s.fn H (ds ++ []) = { results := [.lit (.bool true)], args := ds }) (hr : f.resultTypes = #[4]) (hb : Below W.heap.size W W') :
    s.post enc Try.prog f false true false false W args (.bool true) W' := by
  have hlt : ∀ x ∈ before, x.block < W.heap.size := fun x hx => by simpa using hW.lt x hx
  have hW' := hW
  obtain ⟨p, q, hA, hV, he, hz, hn⟩ := hW'
  rw [hv] at hV
  obtain ⟨_, rfl⟩ := trodVars_none hV
  have hpb : p = before := by rw [he]; simp
  subst hpb
  have hargs : ∀ sp : Nat → Bool, (∀ x ∈ p, sp x.block = true) → DataW.TrodAll enc Try.prog W' 0 sp true f.params.toList args.toList ds p := fun sp hsp => args_again hb hts hA hlt sp hsp
  have hres : ∀ (b : Nat) (sp : Nat → Bool) (hd : Bool), DataW.TrodAll enc Try.prog W' b sp hd f.resultTypes.toList ((Value.bool true).resultList f.resultTypes.size) [.lit (.bool true)] [] := fun b sp hd => by
    rw [hr]
    exact trodAll_cons_mk (shut_bool Try.underlying4 true) trodAll_mk0
  have hvars : ∀ sp : Nat → Bool, DataW.TrodVars enc Try.prog W' sp s.vars [] [] := fun sp => by rw [hv]; rfl
  refine ⟨ds, [], p, [], p, [], hW, ?_, ?_, ?_, World.keptBut_mono (fun x hx => ⟨hx, Or.inr (Or.inl hx)⟩) (hb.frame (· ∈ p)), fun _ => ?_⟩
  · rw [hs]; exact hres _ _ _
  · rw [hs]; exact hargs _ (fun x hx => by simpa using hlt x hx)
  · rw [hs]; exact hvars _
  · refine ⟨ok_one (v := .bool true) hr (by simp [Value.resultList]) (okWide_bool_mk (P := Try.prog) (W' := W') (t := 4) Try.underlying4 true), [.lit (.bool true)] ++ ds, [], ([] ++ p) ++ [], ⟨[] ++ p, [], ?_, hvars _, rfl, ?_, by intro h; cases h⟩, ?_⟩
    · exact trodAll_append (hargs (fun _ => true) (fun _ _ => rfl)) (hres _ _ _)
    · intro b off hp
      have hp' : MemPlace.cell b off ∈ p := by simpa using hp
      rw [hb.frozen (hlt _ hp')]
      exact hz b off (by simpa using hp')
    · intro x hx _
      simpa using hx
end Go.Proofs.Ytnobggabjpcbfaa

/-
  The law's small functions: lists of ints compared; fuel that runs short.
-/
set_option linter.unusedVariables false
set_option linter.unusedSimpArgs false
namespace Go.Proofs.Ytnobggabjpcbfaa
open Go.RowKit

def BoolPost (b : Bool) (w : World) (e : Ending) (w' : World) : Prop := e = .returned (.bool b) ∧ ∃ n, w' = w.drewN n
theorem drewN_add (w : World) (a b : Nat) : (w.drewN a).drewN b = w.drewN (a + b) := by
  simp [World.drewN, Nat.add_assoc]
def beginsB (a b : List Int) : Bool := decide (b <+: a)
theorem beginsB_short {a b : List Int} (h : a.length < b.length) : beginsB a b = false := by
  simp only [beginsB, decide_eq_false_iff_not]
  intro hp
  have := hp.length_le
  omega
theorem beginsB_no {a b : List Int} {j : Nat} (hj : j < b.length) (hja : j < a.length) (h : nth a j ≠ nth b j) : beginsB a b = false := by
  simp only [beginsB, decide_eq_false_iff_not]
  rintro ⟨r, rfl⟩
  apply h
  rw [nth_eq _ hja, nth_eq _ hj, List.getElem_append_left hj]
theorem beginsB_yes {a b : List Int} (hl : b.length ≤ a.length) (h : ∀ j, j < b.length → nth a j = nth b j) : beginsB a b = true := by
  simp only [beginsB, decide_eq_true_eq]
  have : b = a.take b.length := by
    apply List.ext_getElem
    · simp; omega
    · intro i h1 h2
      have := h i h1
      rw [nth_eq _ (by omega), nth_eq _ h1] at this
      simp [this]
  rw [this]
  exact List.take_prefix _ _

set_option maxRecDepth 100000 in
set_option maxHeartbeats 2000000 in
theorem begins_any {a b : List Int} {A A' : Option Addr} {c c' : Nat} (w : World) (ha : IntsIn w.heap.size w A a) (hb : IntsIn w.heap.size w A' b) :
    Calls Try.prog 12 #[.slice A a.length c, .slice A' b.length c'] w (BoolPost (beginsB a b) w) := by
  by_cases hs : a.length < b.length
  · have HB := Lib.hid (beginsB_short hs)
    go_enter Try.func12, Try.ntmps12
    have hs' : (a.length : Int) < (b.length : Int) := by omega
    go_wp2_with fail
    go_ret
    exact ⟨ret_bool HB.out.symm, 0, rfl⟩
  · have hs' : ¬ (a.length : Int) < (b.length : Int) := by omega
    have h1 := ha.1
    have h2 := hb.1
    have HA := Lib.hid ha
    have HBI := Lib.hid hb
    clear ha hb
    go_enter Try.func12, Try.ntmps12
    go_wp2_with fail
    go_loopw [5] (fun i wr => ∃ (j n : Nat), j ≤ b.length ∧ i = .int .i64 (j : Int) ∧ wr = w.drewN n ∧ Hid (∀ q, q < j → nth a q = nth b q)) (fun i _ => b.length + 1 - (intOf i).toNat)
    case atStart => exact ⟨0, 0, by omega, rfl, rfl, Lib.hid (by intro q h; omega)⟩
    case round =>
      obtain ⟨j, n, hj, rfl, rfl, hq⟩ := hrel
      by_cases hlt : j < b.length
      · obtain ⟨ab, ao, rfl, hab, hac⟩ := HA.out.at_ (by omega)
        obtain ⟨bb, bo, rfl, hbb, hbc⟩ := HBI.out.at_ (by omega)
        have ca : w.cell? ⟨ab, ao + j, none⟩ = some (.int .i64 (nth a j)) := hac j (by omega)
        have cb : w.cell? ⟨bb, bo + j, none⟩ = some (.int .i64 (nth b j)) := hbc j (by omega)
        have hj0 : (0 : Int) ≤ (j : Int) := by omega
        have hja : (j : Int) < (a.length : Int) := by omega
        have hjb : (j : Int) < (b.length : Int) := by omega
        clear hac hbc
        by_cases hx : nth a j = nth b j
        · have hx' : (nth a j == nth b j) = true := by simpa using hx
          have hq' : Hid (∀ q, q < j + 1 → nth a q = nth b q) := Lib.hid (fun q hlt' => by
            by_cases h : q = j
            · subst h; exact hx
            · exact hq.out q (by omega))
          clear hx
          generalize nth a j = x at *
          generalize nth b j = y at *
          obtain rfl : x = y := by simpa using hx'
          go_wp2_with fail
          go_quiet (fail)
          go_wp2_with fail
          go_roundw
          case rel => exact ⟨j + 1, _, by omega, by go_num, rfl, hq'⟩
          case measure => simp [intOf]; omega
        · have hx' : (nth a j == nth b j) = false := by simpa using hx
          have HB := Lib.hid (beginsB_no hlt (by omega) hx)
          have HXN := Lib.hid hx
          clear hx
          generalize nth a j = x at *
          generalize nth b j = y at *
          go_wp2_with fail
          go_quiet (fail)
          go_wp2_with fail
          go_ret
          exact ⟨ret_bool HB.out.symm, _, drewN_add _ _ _⟩
      · have hjl : ¬ (j : Int) < (b.length : Int) := by omega
        have HB := Lib.hid (beginsB_yes (a := a) (b := b) (by omega) (fun q h => hq.out q (by omega)))
        go_wp2_with fail
        go_ret
        exact ⟨ret_bool HB.out.symm, n, rfl⟩

theorem begins_eq {a b : List Int} (h : a.length = b.length) : beginsB a b = decide (a = b) := by
  simp only [beginsB, decide_eq_decide]
  constructor
  · intro hp; exact (hp.eq_of_length h.symm).symm
  · rintro rfl; exact List.prefix_refl _

set_option maxRecDepth 100000 in
set_option maxHeartbeats 2000000 in
theorem sameInts_any {a b : List Int} {A A' : Option Addr} {c c' : Nat} (w : World) (ha : IntsIn w.heap.size w A a) (hb : IntsIn w.heap.size w A' b) :
    Calls Try.prog 20 #[.slice A a.length c, .slice A' b.length c'] w (BoolPost (decide (a = b)) w) := by
  by_cases hs : a.length = b.length
  · have HB := Lib.hid (begins_eq hs)
    have hs' : ((a.length : Int) == (b.length : Int)) = true := by simp [hs]
    have HC := Lib.hid (begins_any (c := c) (c' := c') w ha hb)
    clear ha hb
    generalize a.length = la at *
    generalize b.length = lb at *
    subst hs
    go_enter Try.func20, Try.ntmps20
    go_wp2_with (go_at_call 12; refine HC.out.mono ?_; rintro e w' ⟨rfl, n, rfl⟩)
    go_ret
    exact ⟨ret_bool HB.out, n, rfl⟩
  · have HB := Lib.hid (show decide (a = b) = false from by simp; intro h; exact hs (by rw [h]))
    have hs' : ((a.length : Int) == (b.length : Int)) = false := by simp; omega
    clear ha hb
    generalize a.length = la at *
    generalize b.length = lb at *
    go_enter Try.func20, Try.ntmps20
    go_wp2_with fail
    go_ret
    exact ⟨ret_bool HB.out.symm, 0, rfl⟩

/-- an end as a value -/
def EndV (w : World) (pe : PEnd) (v : Value) : Prop := ∃ A c, v = .agg #[.int .i64 pe.kind, .int .i64 pe.n, .slice A pe.out.length c, .int .i64 pe.steps] ∧ IntsIn w.heap.size w A pe.out
def sameE (p q : PEnd) : Bool := decide (p.kind = q.kind ∧ p.n = q.n ∧ p.out = q.out)
def BoolBelow (b : Bool) (w : World) (e : Ending) (w' : World) : Prop := e = .returned (.bool b) ∧ Below w.heap.size w w'

set_option maxRecDepth 100000 in
set_option maxHeartbeats 2000000 in
theorem same_any {p q : PEnd} {v u : Value} (w : World) (hp : EndV w p v) (hq : EndV w q u) : Calls Try.prog 11 #[v, u] w (BoolBelow (sameE p q) w) := by
  obtain ⟨A, c, rfl, hi⟩ := hp
  obtain ⟨A', c', rfl, hi'⟩ := hq
  have hb : Below w.heap.size w ((w.alloc (.cells #[.int .i64 p.kind, .int .i64 p.n, .slice A p.out.length c, .int .i64 p.steps] 35)).alloc (.cells #[.int .i64 q.kind, .int .i64 q.n, .slice A' q.out.length c', .int .i64 q.steps] 35)) :=
    ((Below.refl _ _).alloc (Nat.le_refl _) _).alloc (by rw [World.size_alloc]; exact Nat.le_succ _) _
  have HC := Lib.hid (sameInts_any (c := c) (c' := c') _ ((hi.below hb).mono hb.size) ((hi'.below hb).mono hb.size))
  have HB := Lib.hid hb
  clear hi hi' hb
  by_cases h1 : p.kind = q.kind
  · have h1' : (p.kind == q.kind) = true := by simpa using h1
    by_cases h2 : p.n = q.n
    · have h2' : (p.n == q.n) = true := by simpa using h2
      have HS := Lib.hid (show sameE p q = decide (p.out = q.out) from by simp [sameE, h1, h2])
      clear h1 h2
      generalize p.kind = pk at *
      generalize q.kind = qk at *
      generalize p.n = pn at *
      generalize q.n = qn at *
      go_enter Try.func11, Try.ntmps11
      go_wp2_with (go_at_call 20; refine HC.out.mono ?_; rintro e w' ⟨rfl, n, rfl⟩)
      go_ret
      exact ⟨ret_bool HS.out.symm, below_drewN HB.out n⟩
    · have h2' : (p.n == q.n) = false := by simpa using h2
      have HS := Lib.hid (show sameE p q = false from by simp [sameE, h2])
      clear h1 h2
      go_enter Try.func11, Try.ntmps11
      go_wp2_with fail
      go_ret
      exact ⟨ret_bool HS.out.symm, HB.out⟩
  · have h1' : (p.kind == q.kind) = false := by simpa using h1
    have HS := Lib.hid (show sameE p q = false from by simp [sameE, h1])
    clear h1
    go_enter Try.func11, Try.ntmps11
    go_wp2_with fail
    go_ret
    exact ⟨ret_bool HS.out.symm, HB.out⟩

end Go.Proofs.Ytnobggabjpcbfaa

/-
  knows: atoms and binds that are made; the example as a plain program.
-/
set_option linter.unusedVariables false
set_option linter.unusedSimpArgs false
namespace Go.Proofs.Ytnobggabjpcbfaa
open Go.RowKit Go.Maps

/-- the chapter's example -/
def kbody : Anf := .bind 2 4 1 [⟨true, 0⟩] [] [] (.bind 3 2 1 [⟨true, 1⟩, ⟨true, 2⟩] [] [] (.ret ⟨true, 3⟩))
def kmain : Anf := .bind 0 9 0 [⟨false, 7⟩] [] [] (.bind 1 6 0 [⟨true, 0⟩, ⟨false, 5⟩] [] [] (.bind 2 2 13 [⟨true, 1⟩] [] [] (.ret ⟨false, 0⟩)))
def kprog : FlatP := ⟨[⟨0, 1, kbody⟩], kmain⟩
theorem know1 : runE kprog [] 99 = ⟨1, 0, [12], 6⟩ := by kernel_rfl
theorem ksmall : SmallF kprog := by
  refine ⟨by decide, ?_, ?_⟩
  · intro g hg
    obtain rfl : g = ⟨0, 1, kbody⟩ := by simpa [kprog] using hg
    simp only [kbody, rngA, rngL, List.mem_cons, List.not_mem_nil, or_false, forall_eq, forall_eq_or_imp, true_and]
    exact ⟨rfl, ⟨rfl, rfl⟩, rfl⟩
  · simp only [kprog, kmain, rngA, rngL, List.mem_cons, List.not_mem_nil, or_false, forall_eq, forall_eq_or_imp, true_and]
    exact ⟨rfl, ⟨rfl, rfl⟩, rfl, rfl⟩

set_option maxRecDepth 100000 in
set_option maxHeartbeats 1000000 in
theorem mkvar_any (n : Int) (w : World) : Calls Try.prog 16 #[.int .i64 n] w fun e w' => e = .returned (.agg #[.bool true, .int .i64 n]) ∧ Below w.heap.size w w' := by
  go_enter Try.func16, Try.ntmps16
  go_wp2_with fail
  have hb : Below w.heap.size w (w.alloc (.cells #[.bool true, .int .i64 n] 25)) := (Below.refl _ _).alloc (Nat.le_refl _) _
  exact bodyPost_ret (v := .agg #[.bool true, .int .i64 n]) (by simp [results, Try.results16, go_sem]) rfl ⟨rfl, hb⟩
set_option maxRecDepth 100000 in
set_option maxHeartbeats 1000000 in
theorem mkint_any (n : Int) (w : World) : Calls Try.prog 17 #[.int .i64 n] w fun e w' => e = .returned (.agg #[.bool false, .int .i64 n]) ∧ Below w.heap.size w w' := by
  go_enter Try.func17, Try.ntmps17
  go_wp2_with fail
  have hb : Below w.heap.size w (w.alloc (.cells #[.bool false, .int .i64 n] 25)) := (Below.refl _ _).alloc (Nat.le_refl _) _
  exact bodyPost_ret (v := .agg #[.bool false, .int .i64 n]) (by simp [results, Try.results17, go_sem]) rfl ⟨rfl, hb⟩
set_option maxRecDepth 100000 in
set_option maxHeartbeats 1000000 in
theorem mkbind_any (v p : Int) (A : Option Addr) (n c : Nat) (w : World) : Calls Try.prog 19 #[.int .i64 v, .int .i64 p, .slice A n c] w fun e w' => e = .returned (.agg #[.int .i64 v, .int .i64 2, .int .i64 p, .slice A n c, .slice none 0 0, .slice none 0 0]) ∧ Below w.heap.size w w' := by
  go_enter Try.func19, Try.ntmps19
  go_wp2_with fail
  have hb : Below w.heap.size w (w.alloc (.cells #[.int .i64 v, .int .i64 2, .int .i64 p, .slice A n c, .slice none 0 0, .slice none 0 0] 54)) := (Below.refl _ _).alloc (Nat.le_refl _) _
  exact bodyPost_ret (v := .agg #[.int .i64 v, .int .i64 2, .int .i64 p, .slice A n c, .slice none 0 0, .slice none 0 0]) (by simp [results, Try.results19, go_sem]) rfl ⟨rfl, hb⟩
theorem heap4 (w : World) (a b c d : Obj) : ((((w.alloc a).alloc b).alloc c).alloc d).heap[w.heap.size + 1 + 1 + 1]? = some d := by
  have := World.alloc_heap_new (((w.alloc a).alloc b).alloc c) d
  rw [World.size_alloc, World.size_alloc, World.size_alloc] at this
  exact this
set_option maxRecDepth 100000 in
set_option maxHeartbeats 1000000 in
theorem mkapp_any (v : Int) (x y : Bool) (m n : Int) (w : World) : Calls Try.prog 15 #[.int .i64 v, .agg #[.bool x, .int .i64 m], .agg #[.bool y, .int .i64 n]] w fun e w' =>
    ∃ g, e = .returned (.agg #[.int .i64 v, .int .i64 6, .int .i64 0, .slice (some ⟨g, 0, none⟩) 2 2, .slice none 0 0, .slice none 0 0]) ∧ w.heap.size ≤ g ∧ w'.heap[g]? = some (.cells #[.bool x, .int .i64 m, .bool y, .int .i64 n] 25) ∧ Below w.heap.size w w' := by
  go_enter Try.func15, Try.ntmps15
  go_wp2_with fail
  have hb : Below w.heap.size w ((((w.alloc (.cells #[.bool x, .int .i64 m] 25)).alloc (.cells #[.bool y, .int .i64 n] 25)).alloc (.cells #[.int .i64 v, .int .i64 6, .int .i64 0, .slice (some ⟨w.heap.size + 1 + 1 + 1, 0, none⟩) 2 2, .slice none 0 0, .slice none 0 0] 54)).alloc (.cells #[.bool x, .int .i64 m, .bool y, .int .i64 n] 25)) :=
    ((((Below.refl _ _).alloc (Nat.le_refl _) _).alloc (by simp) _).alloc (by simp; omega) _).alloc (by simp; omega) _
  exact bodyPost_ret (v := .agg #[.int .i64 v, .int .i64 6, .int .i64 0, .slice (some ⟨w.heap.size + 1 + 1 + 1, 0, none⟩) 2 2, .slice none 0 0, .slice none 0 0]) (by simp [results, Try.results15, go_sem]) rfl ⟨_, rfl, by omega, heap4 _ _ _ _ _, hb⟩
end Go.Proofs.Ytnobggabjpcbfaa

/-
  knows: its two regions that draw their order.
-/
set_option linter.unusedVariables false
set_option linter.unusedSimpArgs false
namespace Go.Proofs.Ytnobggabjpcbfaa
open Go.RowKit Go.Maps

noncomputable def knowsR2 : Code := match Try.f8.body with
  | some (.seq _ (.seq _ (.seq c _))) => c
  | _ => .skip
noncomputable def knowsT3 : Code := match Try.f8.body with
  | some (.seq _ (.seq _ (.seq _ c))) => c
  | _ => .skip
noncomputable def knowsR4 : Code := match Try.f8.body with
  | some (.seq _ (.seq _ (.seq _ (.seq _ (.seq c _))))) => c
  | _ => .skip
noncomputable def knowsT5 : Code := match Try.f8.body with
  | some (.seq _ (.seq _ (.seq _ (.seq _ (.seq _ c))))) => c
  | _ => .skip
open Go.Proofs.YtnobggabjpcbfaaW.PrintWords Go.Proofs.YtnobggabjpcbfaaW.PrintLast
theorem putSel_skip {b : Nat → Bool} {i : Nat} : ∀ {l : List (Nat × Tmp × Value)} {a : Act}, (l.all fun e => !(e.1 == i)) = true → putSel a (up b i) l = putSel a b l
  | [], a, _ => rfl
  | e :: l, a, h => by
    rw [List.all_cons, Bool.and_eq_true] at h
    have he : e.1 ≠ i := by simpa using h.1
    unfold putSel
    rw [up_ne he]
    exact putSel_skip h.2
inductive Dep (b : Nat → Bool) : List (Nat × Tmp × Value) → List (Nat × Tmp × Value) → Prop
  | nil : Dep b [] []
  | same {x : Nat × Tmp × Value} {l l' : List (Nat × Tmp × Value)} (h : Dep b l l') : Dep b (x :: l) (x :: l')
  | turn {i : Nat} {t : Tmp} {v v' : Value} {l l' : List (Nat × Tmp × Value)} (hi : b i = false) (h : Dep b l l') : Dep b ((i, t, v) :: l) ((i, t, v') :: l')
theorem putSel_dep {b : Nat → Bool} : ∀ {L L' : List (Nat × Tmp × Value)} {a : Act}, Dep b L L' → putSel a b L = putSel a b L'
  | _, _, a, .nil => rfl
  | _, _, a, .same h => by
    unfold putSel
    split
    · exact putSel_dep h
    · exact putSel_dep h
  | _, _, a, .turn hi h => by
    unfold putSel
    simp only [hi, Bool.false_eq_true, if_false]
    exact putSel_dep h
/-- blocks that were made since V, each from its operation on -/
structure KF (V : World) (b : Nat → Bool) (L : List (Nat × Nat × Obj)) (w : World) : Prop where
  bel : Below V.heap.size V w
  at_ : ∀ x ∈ L, b x.1 = true → V.heap.size ≤ x.2.1 ∧ w.heap[x.2.1]? = some x.2.2
theorem heap_lt {w : World} {g : Nat} {o : Obj} (h : w.heap[g]? = some o) : g < w.heap.size := (Array.getElem?_eq_some_iff.1 h).1
section
variable {V w w' : World} {b : Nat → Bool} {L L' : List (Nat × Nat × Obj)} {i : Nat}
theorem KF.pass (h : KF V b L w) (hi : (L.all fun x => !(x.1 == i)) = true) : KF V (up b i) L w :=
  ⟨h.bel, fun x hx hb => by
    have : x.1 ≠ i := by simpa using List.all_eq_true.1 hi x hx
    exact h.at_ x hx (by rwa [up_ne this] at hb)⟩
theorem KF.grow (h : KF V b L w) (hw : Below w.heap.size w w') (hi : (L.map (·.1)).contains i = false) : KF V (up b i) L w' :=
  ⟨h.bel.trans (hw.mono h.bel.size), fun x hx hb => by
    have hne : x.1 ≠ i := fun e => by
      have : (L.map (·.1)).contains i = true := List.contains_iff_mem.2 (List.mem_map.2 ⟨x, hx, e⟩)
      rw [this] at hi; cases hi
    obtain ⟨h1, h2⟩ := h.at_ x hx (by rwa [up_ne hne] at hb)
    exact ⟨h1, (hw.block _ (heap_lt h2)).trans h2⟩⟩
theorem KF.made (h : KF V b L w) (i : Nat) {g : Nat} {o : Obj} (hw : Below w.heap.size w w') (hg : w.heap.size ≤ g) (ho : w'.heap[g]? = some o) (hL : ∀ x ∈ L', x = (i, g, o) ∨ (x.1 ≠ i ∧ (x ∈ L ∨ b x.1 = false))) : KF V (up b i) L' w' :=
  ⟨h.bel.trans (hw.mono h.bel.size), fun x hx hb => by
    rcases hL x hx with rfl | ⟨hne, hm | hf⟩
    · exact ⟨Nat.le_trans h.bel.size hg, ho⟩
    · obtain ⟨h1, h2⟩ := h.at_ x hm (by rwa [up_ne hne] at hb)
      exact ⟨h1, (hw.block _ (heap_lt h2)).trans h2⟩
    · rw [up_ne hne, hf] at hb; cases hb⟩
theorem KF.new (h : KF V b L w) (i : Nat) (o : Obj) (hL : ∀ x ∈ L', x = (i, w.heap.size, o) ∨ (x.1 ≠ i ∧ (x ∈ L ∨ b x.1 = false))) : KF V (up b i) L' (w.alloc o) :=
  h.made i ((Below.refl _ _).alloc (Nat.le_refl _) _) (Nat.le_refl _) (World.alloc_heap_new w o) hL
/-- a block's three cells stored -/
def set3 (w : World) (g : Nat) (c0 c1 c2 : Value) : World := ((w.setCell ⟨g, 0, none⟩ c0).setCell ⟨g, 1, none⟩ c1).setCell ⟨g, 2, none⟩ c2
theorem zero3 (h : KF V b L w) {i g : Nat} {c0 c1 c2 : Value} {t : TypeId} (hm : (i, g, Obj.cells #[c0, c1, c2] t (0, 0)) ∈ L) (hb : b i = true) : w.cell? ⟨g, 0, none⟩ = some c0 ∧ w.cell? ⟨g, 1, none⟩ = some c1 ∧ w.cell? ⟨g, 2, none⟩ = some c2 ∧ ∀ i, w.frozen? ⟨g, i, none⟩ = false := by
  obtain ⟨_, h2⟩ := h.at_ _ hm hb
  exact ⟨by simp [World.cell?, h2], by simp [World.cell?, h2], by simp [World.cell?, h2], fun i => by simp [World.frozen?, h2]⟩
theorem KF.set3 (h : KF V b L w) (d0 d1 d2 : Value) {i g j : Nat} {c0 c1 c2 : Value} {t : TypeId} (hm : (i, g, Obj.cells #[c0, c1, c2] t (0, 0)) ∈ L) (hb : b i = true) (hL : ∀ x ∈ L', (x.1 = i ∧ x.2.1 = g ∧ x.2.2 = Obj.cells #[d0, d1, d2] t (0, 0)) ∨ (x.1 ≠ j ∧ x ∈ L ∧ x.2.2 ≠ Obj.cells #[c0, c1, c2] t (0, 0) ∧ b x.1 = true)) : KF V (up b j) L' (set3 w g d0 d1 d2) := by
  obtain ⟨h1, h2⟩ := h.at_ _ hm hb
  refine ⟨((h.bel.setCell (p := ⟨g, 0, none⟩) h1 d0).setCell (p := ⟨g, 1, none⟩) h1 d1).setCell (p := ⟨g, 2, none⟩) h1 d2, fun x hx hbx => ?_⟩
  rcases hL x hx with ⟨_, e2, e3⟩ | ⟨hne, hm', hno, hbt⟩
  · rw [e2, e3]
    refine ⟨h1, ?_⟩
    unfold Go.Proofs.Ytnobggabjpcbfaa.set3
    rw [heap_set_self (heap_set_self (heap_set_self h2 0 _) 1 _) 2 _]; rfl
  · obtain ⟨g1, g2⟩ := h.at_ x hm' hbt
    have hng : x.2.1 ≠ g := fun e => by
      rw [e, h2] at g2
      exact hno (Option.some.inj g2).symm
    refine ⟨g1, ?_⟩
    unfold Go.Proofs.Ytnobggabjpcbfaa.set3
    rw [heap_set_ne hng, heap_set_ne hng, heap_set_ne hng]
    exact g2
/-- ahead of the last operation L, behind it L' -/
def KI (V : World) (b : Nat → Bool) (L L' : List (Nat × Nat × Obj)) (l : Nat) (w : World) : Prop := (b l = false → KF V b L w) ∧ (b l = true → KF V b L' w)
theorem KI.start {l : Nat} (hb : Below V.heap.size V w) : KI V (fun _ => false) L L' l w := ⟨fun _ => ⟨hb, fun x _ h => by cases h⟩, fun h => by cases h⟩
theorem KI.step {l : Nat} (hl : b l = false) (hi : i ≠ l) (h : KF V (up b i) L w) : KI V (up b i) L L' l w := ⟨fun _ => h, fun h' => (by rw [up_ne (Ne.symm hi), hl] at h'; cases h')⟩
theorem KI.last {l : Nat} (h : KF V (up b l) L' w) : KI V (up b l) L L' l w := ⟨fun h' => (by rw [up_self] at h'; cases h'), fun _ => h⟩
end

set_option maxRecDepth 100000 in
set_option maxHeartbeats 16000000 in
theorem kn_region2 {W V : World} {X1 bf : Nat} (hS : ∀ V2, Below V.heap.size V V2 → V2.cell? ⟨X1, 0, none⟩ = some (.int .i64 2) ∧ V2.cell? ⟨X1, 1, none⟩ = some (.int .i64 4) ∧ V2.cell? ⟨X1, 2, none⟩ = some (.int .i64 1) ∧ V2.cell? ⟨X1, 3, none⟩ = some (.slice (some ⟨bf, 0, none⟩) 1 1) ∧ V2.cell? ⟨X1, 4, none⟩ = some (.slice none 0 0) ∧ V2.cell? ⟨X1, 5, none⟩ = some (.slice none 0 0))
    (hend : ∀ (V2 : World) (g3 g5 g8 : Nat), Below V.heap.size V V2 → V2.heap[g3]? = some (.cells #[.bool true, .int .i64 1, .bool true, .int .i64 2] 25) → V2.heap[g5]? = some (.cells #[.int .i64 2, .int .i64 4, .int .i64 1, .slice (some ⟨bf, 0, none⟩) 1 1, .slice none 0 0, .slice none 0 0, .int .i64 3, .int .i64 2, .int .i64 1, .slice (some ⟨g3, 0, none⟩) 2 2, .slice none 0 0, .slice none 0 0] 54) → V2.heap[g8]? = some (.cells #[.slice (some ⟨g5, 0, none⟩) 2 2, .bool true, .int .i64 3] 27) → ∀ (y0 y1 y3 y4 y5 y6 y7 y8 y9 y10 y11 y12 y13 y14 y15 y16 y17 y18 y19 y20 y21 y22 y23 y24 y25 y26 y27 y28 y29 y30 y31 y32 y33 y34 y35 y36 y37 y38 y39 y40 y41 y42 y43 y44 y45 y46 y47 y48 y49 y50 : Value), knowsT3.wp Try.prog (bodyPost Try.prog Try.f8 (BoolBelow true W)) { tmps := #[y0, y1, .pointer (some ⟨g8, 0, none⟩), y3, y4, y5, y6, y7, y8, y9, y10, y11, y12, y13, y14, y15, y16, y17, y18, y19, y20, y21, y22, y23, y24, y25, y26, y27, y28, y29, y30, y31, y32, y33, y34, y35, y36, y37, y38, y39, y40, y41, y42, y43, y44, y45, y46, y47, y48, y49, y50], defers := [] } V2) (u0 u2 u3 u4 u5 u6 u7 u8 u9 u10 u11 u12 u13 u14 u15 u16 u17 u18 u19 u20 u21 u22 u23 u24 u25 u26 u27 u28 u29 u30 u31 u32 u33 u34 u35 u36 u37 u38 u39 u40 u41 u42 u43 u44 u45 u46 u47 u48 u49 u50 : Value) :
    ∀ K : Act → World → Prop, (∀ a w, knowsT3.wp Try.prog (bodyPost Try.prog Try.f8 (BoolBelow true W)) a w → K a w) → knowsR2.wp Try.prog (Exit.then K (bodyPost Try.prog Try.f8 (BoolBelow true W))) { tmps := #[u0, .pointer (some ⟨X1, 0, none⟩), u2, u3, u4, u5, u6, u7, u8, u9, u10, u11, u12, u13, u14, u15, u16, u17, u18, u19, u20, u21, u22, u23, u24, u25, u26, u27, u28, u29, u30, u31, u32, u33, u34, u35, u36, u37, u38, u39, u40, u41, u42, u43, u44, u45, u46, u47, u48, u49, u50], defers := [] } V := by
  intro K hK0
  have HK0 := Lib.hid hK0
  have HEND := Lib.hid hend
  have HS := Lib.hid hS
  have D0 := Lib.hid (show Below V.heap.size V V.drew from (Below.refl _ _).drew)
  clear hK0 hend hS
  unfold knowsR2 Try.f8
  dsimp only
  refine start_ (n := 10) (S := fun w' => True) (ds := []) #[false, false, false, false, false, false, false, false, false, false] (by kernel_rfl) rfl rfl trivial (fun hHeld => ?_)
  clear hHeld
  refine inv_at (B := [0, 0, 2, 6, 14, 31, 30, 127, 0, 511]) [0, 1, 2, 3, 4, 5, 6, 7, 8, 9] (fun a0_ b a w' => ∃ g3 g5 g8, a = putSel a0_ b [(0, 10, .agg #[.int .i64 2, .int .i64 4, .int .i64 1, .slice (some ⟨bf, 0, none⟩) 1 1, .slice none 0 0, .slice none 0 0]), (1, 11, .agg #[.bool true, .int .i64 1]), (2, 12, .agg #[.bool true, .int .i64 2]), (3, 13, .slice (some ⟨g3, 0, none⟩) 2 2), (4, 14, .agg #[.int .i64 3, .int .i64 2, .int .i64 1, .slice (some ⟨g3, 0, none⟩) 2 2, .slice none 0 0, .slice none 0 0]), (5, 15, .slice (some ⟨g5, 0, none⟩) 2 2), (6, 16, .agg #[.bool true, .int .i64 3]), (7, 17, .agg #[.slice (some ⟨g5, 0, none⟩) 2 2, .bool true, .int .i64 3]), (8, 2, .pointer (some ⟨g8, 0, none⟩))] ∧ KI V b [(3, g3, (.cells #[.bool true, .int .i64 1, .bool true, .int .i64 2] 25)), (5, g5, (.cells #[.int .i64 2, .int .i64 4, .int .i64 1, .slice (some ⟨bf, 0, none⟩) 1 1, .slice none 0 0, .slice none 0 0, .int .i64 3, .int .i64 2, .int .i64 1, .slice (some ⟨g3, 0, none⟩) 2 2, .slice none 0 0, .slice none 0 0] 54)), (8, g8, (.cells #[.slice none 0 0, .bool false, .int .i64 0] 27))] [(3, g3, (.cells #[.bool true, .int .i64 1, .bool true, .int .i64 2] 25)), (5, g5, (.cells #[.int .i64 2, .int .i64 4, .int .i64 1, .slice (some ⟨bf, 0, none⟩) 1 1, .slice none 0 0, .slice none 0 0, .int .i64 3, .int .i64 2, .int .i64 1, .slice (some ⟨g3, 0, none⟩) 2 2, .slice none 0 0, .slice none 0 0] 54)), (8, g8, (.cells #[.slice (some ⟨g5, 0, none⟩) 2 2, .bool true, .int .i64 3] 27))] 9 w') rfl (by kernel_rfl) (by kernel_rfl) (by kernel_rfl) ?_ ?_ ?_
  · exact ⟨0, 0, 0, by simp only [putSel, Bool.false_eq_true, if_false], KI.start D0.out⟩
  · skip
    refine steps_cons ?_ ?_
    · rintro b a w' ⟨g3, g5, g8, ha, hI⟩ hb_ hon hoff
      refine ⟨_, rfl, fun K hK => ?_⟩
      have e1 : a.tmps[1]? = some (.pointer (some ⟨X1, 0, none⟩)) := by rw [ha]; exact (putSel_off rfl).trans rfl
      obtain ⟨z0, z1, z2, z3, z4, z5⟩ := HS.out w' (hI.1 (hoff 9 (by kernel_rfl))).bel
      have hL : b 9 = false := hoff 9 (by kernel_rfl)
      replace ha := Lib.hid ha
      have HI := Lib.hid hI
      clear hI
      refine value_ (w1 := w') (v := .agg #[.int .i64 2, .int .i64 4, .int .i64 1, .slice (some ⟨bf, 0, none⟩) 1 1, .slice none 0 0, .slice none 0 0]) (by rfl) rfl ?_ ?_
      · go_simp
        try rfl
      exact hK.out _ _ ⟨g3, g5, g8, (by rw [ha.out]; exact putSel_upk 0 hb_ rfl rfl rfl), KI.step hL (by decide) ((HI.out.1 hL).pass (by rfl))⟩
    refine steps_cons ?_ ?_
    · rintro b a w' ⟨g3, g5, g8, ha, hI⟩ hb_ hon hoff
      refine ⟨_, rfl, fun K hK => ?_⟩
      have hL : b 9 = false := hoff 9 (by kernel_rfl)
      replace ha := Lib.hid ha
      have HI := Lib.hid hI
      clear hI
      refine goes_ Try.func16 (by kernel_rfl) rfl #[.int .i64 1] (by rfl) rfl rfl (by first | (simp only [List.map_toArray, List.map_cons, List.map_nil, Act.eval, Array.getD_eq_getD_getElem?, Option.getD_some]; done) | (simp only [List.map_toArray, List.map_cons, List.map_nil, Act.eval, Array.getD_eq_getD_getElem?, Option.getD_some]; rfl)) ?_
      refine (mkvar_any 1 w').mono ?_
      rintro e w2 ⟨rfl, hb2⟩
      exact ⟨_, rfl, hK.out _ _ ⟨g3, g5, g8, (by rw [ha.out]; exact putSel_upk 1 hb_ rfl rfl rfl), KI.step hL (by decide) ((HI.out.1 hL).grow hb2 (by rfl))⟩⟩
    refine steps_cons ?_ ?_
    · rintro b a w' ⟨g3, g5, g8, ha, hI⟩ hb_ hon hoff
      refine ⟨_, rfl, fun K hK => ?_⟩
      have hL : b 9 = false := hoff 9 (by kernel_rfl)
      replace ha := Lib.hid ha
      have HI := Lib.hid hI
      clear hI
      refine goes_ Try.func16 (by kernel_rfl) rfl #[.int .i64 2] (by rfl) rfl rfl (by first | (simp only [List.map_toArray, List.map_cons, List.map_nil, Act.eval, Array.getD_eq_getD_getElem?, Option.getD_some]; done) | (simp only [List.map_toArray, List.map_cons, List.map_nil, Act.eval, Array.getD_eq_getD_getElem?, Option.getD_some]; rfl)) ?_
      refine (mkvar_any 2 w').mono ?_
      rintro e w2 ⟨rfl, hb2⟩
      exact ⟨_, rfl, hK.out _ _ ⟨g3, g5, g8, (by rw [ha.out]; exact putSel_upk 2 hb_ rfl rfl rfl), KI.step hL (by decide) ((HI.out.1 hL).grow hb2 (by rfl))⟩⟩
    refine steps_cons ?_ ?_
    · rintro b a w' ⟨g3, g5, g8, ha, hI⟩ hb_ hon hoff
      refine ⟨_, rfl, fun K hK => ?_⟩
      have e11 : a.tmps[11]? = some (.agg #[.bool true, .int .i64 1]) := by rw [ha]; exact putSel_on (e := (1, 11, .agg #[.bool true, .int .i64 1])) 1 rfl rfl (hon 1 (by kernel_rfl)) rfl
      have e12 : a.tmps[12]? = some (.agg #[.bool true, .int .i64 2]) := by rw [ha]; exact putSel_on (e := (2, 12, .agg #[.bool true, .int .i64 2])) 2 rfl rfl (hon 2 (by kernel_rfl)) rfl
      have o4 : b 4 = false := hoff 4 (by kernel_rfl)
      have o5 : b 5 = false := hoff 5 (by kernel_rfl)
      have hL : b 9 = false := hoff 9 (by kernel_rfl)
      replace ha := Lib.hid ha
      have HI := Lib.hid hI
      clear hI
      refine value_ (w1 := w'.alloc (.cells #[.bool true, .int .i64 1, .bool true, .int .i64 2] 25)) (v := .slice (some ⟨w'.heap.size, 0, none⟩) 2 2) (by rfl) rfl ?_ ?_
      · go_simp
        try rfl
      refine hK.out _ _ ⟨w'.heap.size, g5, g8, (by rw [ha.out, putSel_dep (L' := [(0, 10, .agg #[.int .i64 2, .int .i64 4, .int .i64 1, .slice (some ⟨bf, 0, none⟩) 1 1, .slice none 0 0, .slice none 0 0]), (1, 11, .agg #[.bool true, .int .i64 1]), (2, 12, .agg #[.bool true, .int .i64 2]), (3, 13, .slice (some ⟨g3, 0, none⟩) 2 2), (4, 14, .agg #[.int .i64 3, .int .i64 2, .int .i64 1, .slice (some ⟨w'.heap.size, 0, none⟩) 2 2, .slice none 0 0, .slice none 0 0]), (5, 15, .slice (some ⟨g5, 0, none⟩) 2 2), (6, 16, .agg #[.bool true, .int .i64 3]), (7, 17, .agg #[.slice (some ⟨g5, 0, none⟩) 2 2, .bool true, .int .i64 3]), (8, 2, .pointer (some ⟨g8, 0, none⟩))]) (.same (.same (.same (.same (.turn o4 (.same (.same (.same (.same (.nil))))))))))]; exact putSel_upk 3 hb_ rfl rfl rfl), KI.step hL (by decide) ((HI.out.1 hL).new 3 _ ?_)⟩
      intro x hx
      simp only [List.mem_cons, List.not_mem_nil, or_false] at hx
      rcases hx with rfl | rfl | rfl
      · exact .inl rfl
      · exact .inr ⟨by simp, .inr o5⟩
      · exact .inr ⟨by simp, .inl (by simp)⟩
    refine steps_cons ?_ ?_
    · rintro b a w' ⟨g3, g5, g8, ha, hI⟩ hb_ hon hoff
      refine ⟨_, rfl, fun K hK => ?_⟩
      have e13 : a.tmps[13]? = some (.slice (some ⟨g3, 0, none⟩) 2 2) := by rw [ha]; exact putSel_on (e := (3, 13, .slice (some ⟨g3, 0, none⟩) 2 2)) 3 rfl rfl (hon 3 (by kernel_rfl)) rfl
      have hL : b 9 = false := hoff 9 (by kernel_rfl)
      replace ha := Lib.hid ha
      have HI := Lib.hid hI
      clear hI
      refine goes_ Try.func19 (by kernel_rfl) rfl #[.int .i64 3, .int .i64 1, .slice (some ⟨g3, 0, none⟩) 2 2] (by rfl) rfl rfl (by first | (simp only [List.map_toArray, List.map_cons, List.map_nil, Act.eval, Array.getD_eq_getD_getElem?, Option.getD_some, e13]; done) | (simp only [List.map_toArray, List.map_cons, List.map_nil, Act.eval, Array.getD_eq_getD_getElem?, Option.getD_some, e13]; rfl)) ?_
      refine (mkbind_any 3 1 _ 2 2 w').mono ?_
      rintro e w2 ⟨rfl, hb2⟩
      exact ⟨_, rfl, hK.out _ _ ⟨g3, g5, g8, (by rw [ha.out]; exact putSel_upk 4 hb_ rfl rfl rfl), KI.step hL (by decide) ((HI.out.1 hL).grow hb2 (by rfl))⟩⟩
    refine steps_cons ?_ ?_
    · rintro b a w' ⟨g3, g5, g8, ha, hI⟩ hb_ hon hoff
      refine ⟨_, rfl, fun K hK => ?_⟩
      have e10 : a.tmps[10]? = some (.agg #[.int .i64 2, .int .i64 4, .int .i64 1, .slice (some ⟨bf, 0, none⟩) 1 1, .slice none 0 0, .slice none 0 0]) := by rw [ha]; exact putSel_on (e := (0, 10, .agg #[.int .i64 2, .int .i64 4, .int .i64 1, .slice (some ⟨bf, 0, none⟩) 1 1, .slice none 0 0, .slice none 0 0])) 0 rfl rfl (hon 0 (by kernel_rfl)) rfl
      have e14 : a.tmps[14]? = some (.agg #[.int .i64 3, .int .i64 2, .int .i64 1, .slice (some ⟨g3, 0, none⟩) 2 2, .slice none 0 0, .slice none 0 0]) := by rw [ha]; exact putSel_on (e := (4, 14, .agg #[.int .i64 3, .int .i64 2, .int .i64 1, .slice (some ⟨g3, 0, none⟩) 2 2, .slice none 0 0, .slice none 0 0])) 4 rfl rfl (hon 4 (by kernel_rfl)) rfl
      have o7 : b 7 = false := hoff 7 (by kernel_rfl)
      have hL : b 9 = false := hoff 9 (by kernel_rfl)
      replace ha := Lib.hid ha
      have HI := Lib.hid hI
      clear hI
      refine value_ (w1 := w'.alloc (.cells #[.int .i64 2, .int .i64 4, .int .i64 1, .slice (some ⟨bf, 0, none⟩) 1 1, .slice none 0 0, .slice none 0 0, .int .i64 3, .int .i64 2, .int .i64 1, .slice (some ⟨g3, 0, none⟩) 2 2, .slice none 0 0, .slice none 0 0] 54)) (v := .slice (some ⟨w'.heap.size, 0, none⟩) 2 2) (by rfl) rfl ?_ ?_
      · go_simp
        try rfl
      refine hK.out _ _ ⟨g3, w'.heap.size, g8, (by rw [ha.out, putSel_dep (L' := [(0, 10, .agg #[.int .i64 2, .int .i64 4, .int .i64 1, .slice (some ⟨bf, 0, none⟩) 1 1, .slice none 0 0, .slice none 0 0]), (1, 11, .agg #[.bool true, .int .i64 1]), (2, 12, .agg #[.bool true, .int .i64 2]), (3, 13, .slice (some ⟨g3, 0, none⟩) 2 2), (4, 14, .agg #[.int .i64 3, .int .i64 2, .int .i64 1, .slice (some ⟨g3, 0, none⟩) 2 2, .slice none 0 0, .slice none 0 0]), (5, 15, .slice (some ⟨g5, 0, none⟩) 2 2), (6, 16, .agg #[.bool true, .int .i64 3]), (7, 17, .agg #[.slice (some ⟨w'.heap.size, 0, none⟩) 2 2, .bool true, .int .i64 3]), (8, 2, .pointer (some ⟨g8, 0, none⟩))]) (.same (.same (.same (.same (.same (.same (.same (.turn o7 (.same (.nil))))))))))]; exact putSel_upk 5 hb_ rfl rfl rfl), KI.step hL (by decide) ((HI.out.1 hL).new 5 _ ?_)⟩
      intro x hx
      simp only [List.mem_cons, List.not_mem_nil, or_false] at hx
      rcases hx with rfl | rfl | rfl
      · exact .inr ⟨by simp, .inl (by simp)⟩
      · exact .inl rfl
      · exact .inr ⟨by simp, .inl (by simp)⟩
    refine steps_cons ?_ ?_
    · rintro b a w' ⟨g3, g5, g8, ha, hI⟩ hb_ hon hoff
      refine ⟨_, rfl, fun K hK => ?_⟩
      have hL : b 9 = false := hoff 9 (by kernel_rfl)
      replace ha := Lib.hid ha
      have HI := Lib.hid hI
      clear hI
      refine goes_ Try.func16 (by kernel_rfl) rfl #[.int .i64 3] (by rfl) rfl rfl (by first | (simp only [List.map_toArray, List.map_cons, List.map_nil, Act.eval, Array.getD_eq_getD_getElem?, Option.getD_some]; done) | (simp only [List.map_toArray, List.map_cons, List.map_nil, Act.eval, Array.getD_eq_getD_getElem?, Option.getD_some]; rfl)) ?_
      refine (mkvar_any 3 w').mono ?_
      rintro e w2 ⟨rfl, hb2⟩
      exact ⟨_, rfl, hK.out _ _ ⟨g3, g5, g8, (by rw [ha.out]; exact putSel_upk 6 hb_ rfl rfl rfl), KI.step hL (by decide) ((HI.out.1 hL).grow hb2 (by rfl))⟩⟩
    refine steps_cons ?_ ?_
    · rintro b a w' ⟨g3, g5, g8, ha, hI⟩ hb_ hon hoff
      refine ⟨_, rfl, fun K hK => ?_⟩
      have e15 : a.tmps[15]? = some (.slice (some ⟨g5, 0, none⟩) 2 2) := by rw [ha]; exact putSel_on (e := (5, 15, .slice (some ⟨g5, 0, none⟩) 2 2)) 5 rfl rfl (hon 5 (by kernel_rfl)) rfl
      have e16 : a.tmps[16]? = some (.agg #[.bool true, .int .i64 3]) := by rw [ha]; exact putSel_on (e := (6, 16, .agg #[.bool true, .int .i64 3])) 6 rfl rfl (hon 6 (by kernel_rfl)) rfl
      have hL : b 9 = false := hoff 9 (by kernel_rfl)
      replace ha := Lib.hid ha
      have HI := Lib.hid hI
      clear hI
      refine value_ (w1 := w') (v := .agg #[.slice (some ⟨g5, 0, none⟩) 2 2, .bool true, .int .i64 3]) (by rfl) rfl ?_ ?_
      · go_simp
        try rfl
      exact hK.out _ _ ⟨g3, g5, g8, (by rw [ha.out]; exact putSel_upk 7 hb_ rfl rfl rfl), KI.step hL (by decide) ((HI.out.1 hL).pass (by rfl))⟩
    refine steps_cons ?_ ?_
    · rintro b a w' ⟨g3, g5, g8, ha, hI⟩ hb_ hon hoff
      refine ⟨_, rfl, fun K hK => ?_⟩
      have hL : b 9 = false := hoff 9 (by kernel_rfl)
      replace ha := Lib.hid ha
      have HI := Lib.hid hI
      clear hI
      refine value_ (w1 := w'.alloc (.cells #[.slice none 0 0, .bool false, .int .i64 0] 27)) (v := .pointer (some ⟨w'.heap.size, 0, none⟩)) (by rfl) rfl ?_ ?_
      · go_simp
        try rfl
      refine hK.out _ _ ⟨g3, g5, w'.heap.size, (by rw [ha.out, putSel_dep (L' := [(0, 10, .agg #[.int .i64 2, .int .i64 4, .int .i64 1, .slice (some ⟨bf, 0, none⟩) 1 1, .slice none 0 0, .slice none 0 0]), (1, 11, .agg #[.bool true, .int .i64 1]), (2, 12, .agg #[.bool true, .int .i64 2]), (3, 13, .slice (some ⟨g3, 0, none⟩) 2 2), (4, 14, .agg #[.int .i64 3, .int .i64 2, .int .i64 1, .slice (some ⟨g3, 0, none⟩) 2 2, .slice none 0 0, .slice none 0 0]), (5, 15, .slice (some ⟨g5, 0, none⟩) 2 2), (6, 16, .agg #[.bool true, .int .i64 3]), (7, 17, .agg #[.slice (some ⟨g5, 0, none⟩) 2 2, .bool true, .int .i64 3]), (8, 2, .pointer (some ⟨g8, 0, none⟩))]) (.same (.same (.same (.same (.same (.same (.same (.same (.same (.nil))))))))))]; exact putSel_upk 8 hb_ rfl rfl rfl), KI.step hL (by decide) ((HI.out.1 hL).new 8 _ ?_)⟩
      intro x hx
      simp only [List.mem_cons, List.not_mem_nil, or_false] at hx
      rcases hx with rfl | rfl | rfl
      · exact .inr ⟨by simp, .inl (by simp)⟩
      · exact .inr ⟨by simp, .inl (by simp)⟩
      · exact .inl rfl
    refine steps_cons ?_ ?_
    · rintro b a w' ⟨g3, g5, g8, ha, hI⟩ hb_ hon hoff
      refine ⟨_, rfl, fun K hK => ?_⟩
      have e17 : a.tmps[17]? = some (.agg #[.slice (some ⟨g5, 0, none⟩) 2 2, .bool true, .int .i64 3]) := by rw [ha]; exact putSel_on (e := (7, 17, .agg #[.slice (some ⟨g5, 0, none⟩) 2 2, .bool true, .int .i64 3])) 7 rfl rfl (hon 7 (by kernel_rfl)) rfl
      have e2 : a.tmps[2]? = some (.pointer (some ⟨g8, 0, none⟩)) := by rw [ha]; exact putSel_on (e := (8, 2, .pointer (some ⟨g8, 0, none⟩))) 8 rfl rfl (hon 8 (by kernel_rfl)) rfl
      have q3 := hon 3 (by kernel_rfl)
      have q5 := hon 5 (by kernel_rfl)
      have q8 := hon 8 (by kernel_rfl)
      replace ha := Lib.hid ha
      have HI := Lib.hid hI
      clear hI
      obtain ⟨y0, y1, y2, y3⟩ := zero3 (HI.out.1 hb_) (i := 8) (g := g8) (c0 := .slice none 0 0) (c1 := .bool false) (c2 := .int .i64 0) (t := 27) (by simp) q8
      refine skip_ (w1 := set3 w' g8 (.slice (some ⟨g5, 0, none⟩) 2 2) (.bool true) (.int .i64 3)) (by rfl) rfl ?_ ?_
      · unfold set3
        go_simp
        try rfl
      refine hK.out _ _ ⟨g3, g5, g8, (by rw [ha.out]; exact (putSel_skip rfl).symm), KI.last ((HI.out.1 hb_).set3 _ _ _ (i := 8) (g := g8) (c0 := .slice none 0 0) (c1 := .bool false) (c2 := .int .i64 0) (t := 27) (by simp) q8 ?_)⟩
      intro x hx
      simp only [List.mem_cons, List.not_mem_nil, or_false] at hx
      rcases hx with rfl | rfl | rfl
      · exact .inr ⟨by simp, by simp, by simp, q3⟩
      · exact .inr ⟨by simp, by simp, by simp, q5⟩
      · exact .inl ⟨rfl, rfl, rfl⟩
    exact steps_nil
  rintro b a w' hall ⟨g3, g5, g8, ha, hI⟩
  have hl : ∀ j, j ≤ 9 → b j = true := fun j hj => hall j (by
    have : j = 0 ∨ j = 1 ∨ j = 2 ∨ j = 3 ∨ j = 4 ∨ j = 5 ∨ j = 6 ∨ j = 7 ∨ j = 8 ∨ j = 9 := by omega
    rcases this with rfl | rfl | rfl | rfl | rfl | rfl | rfl | rfl | rfl | rfl <;> rfl)
  have b0 := hl 0 (by decide)
  have b1 := hl 1 (by decide)
  have b2 := hl 2 (by decide)
  have b3 := hl 3 (by decide)
  have b4 := hl 4 (by decide)
  have b5 := hl 5 (by decide)
  have b6 := hl 6 (by decide)
  have b7 := hl 7 (by decide)
  have b8 := hl 8 (by decide)
  have b9 := hl 9 (by decide)
  have hF := hI.2 b9
  subst ha
  simp only [putSel, b0, b1, b2, b3, b4, b5, b6, b7, b8, if_true, Act.put, List.setIfInBounds_toArray, List.set_cons_zero, List.set_cons_succ, Exit.then]
  exact HK0.out _ _ (HEND.out _ g3 g5 g8 hF.bel (hF.at_ (3, g3, (.cells #[.bool true, .int .i64 1, .bool true, .int .i64 2] 25)) (by simp) b3).2 (hF.at_ (5, g5, (.cells #[.int .i64 2, .int .i64 4, .int .i64 1, .slice (some ⟨bf, 0, none⟩) 1 1, .slice none 0 0, .slice none 0 0, .int .i64 3, .int .i64 2, .int .i64 1, .slice (some ⟨g3, 0, none⟩) 2 2, .slice none 0 0, .slice none 0 0] 54)) (by simp) b5).2 (hF.at_ (8, g8, (.cells #[.slice (some ⟨g5, 0, none⟩) 2 2, .bool true, .int .i64 3] 27)) (by simp) b8).2 _ _ _ _ _ _ _ _ _ _ _ _ _ _ _ _ _ _ _ _ _ _ _ _ _ _ _ _ _ _ _ _ _ _ _ _ _ _ _ _ _ _ _ _ _ _ _ _ _ _)

set_option maxRecDepth 100000 in
set_option maxHeartbeats 16000000 in
theorem kn_region4 {W V : World} {X2 X3 bc : Nat} (hS : ∀ V2, Below V.heap.size V V2 → V2.cell? ⟨X3, 0, none⟩ = some (.int .i64 0) ∧ V2.cell? ⟨X3, 1, none⟩ = some (.int .i64 9) ∧ V2.cell? ⟨X3, 2, none⟩ = some (.int .i64 0) ∧ V2.cell? ⟨X3, 3, none⟩ = some (.slice (some ⟨bc, 0, none⟩) 1 1) ∧ V2.cell? ⟨X3, 4, none⟩ = some (.slice none 0 0) ∧ V2.cell? ⟨X3, 5, none⟩ = some (.slice none 0 0))
    (hend : ∀ (V2 : World) (ga gs gb gp : Nat), Below V.heap.size V V2 → V2.heap[ga]? = some (.cells #[.bool true, .int .i64 0, .bool false, .int .i64 5] 25) → V2.heap[gs]? = some (.cells #[.bool true, .int .i64 1] 25) → V2.heap[gb]? = some (.cells #[.int .i64 0, .int .i64 9, .int .i64 0, .slice (some ⟨bc, 0, none⟩) 1 1, .slice none 0 0, .slice none 0 0, .int .i64 1, .int .i64 6, .int .i64 0, .slice (some ⟨ga, 0, none⟩) 2 2, .slice none 0 0, .slice none 0 0, .int .i64 2, .int .i64 2, .int .i64 13, .slice (some ⟨gs, 0, none⟩) 1 1, .slice none 0 0, .slice none 0 0] 54) → V2.heap[gp]? = some (.cells #[.slice (some ⟨gb, 0, none⟩) 3 3, .bool false, .int .i64 0] 27) → ∀ (y0 y1 y3 y5 y6 y7 y8 y9 y10 y11 y12 y13 y14 y15 y16 y17 y18 y19 y20 y21 y22 y23 y24 y25 y26 y27 y28 y29 y30 y31 y32 y33 y34 y35 y36 y37 y38 y39 y40 y41 y42 y43 y44 y45 y46 y47 y48 y49 y50 : Value), knowsT5.wp Try.prog (bodyPost Try.prog Try.f8 (BoolBelow true W)) { tmps := #[y0, y1, .pointer (some ⟨X2, 0, none⟩), y3, .pointer (some ⟨gp, 0, none⟩), y5, y6, y7, y8, y9, y10, y11, y12, y13, y14, y15, y16, y17, y18, y19, y20, y21, y22, y23, y24, y25, y26, y27, y28, y29, y30, y31, y32, y33, y34, y35, y36, y37, y38, y39, y40, y41, y42, y43, y44, y45, y46, y47, y48, y49, y50], defers := [] } V2) (u0 u1 u4 u5 u6 u7 u8 u9 u10 u11 u12 u13 u14 u15 u16 u17 u18 u19 u20 u21 u22 u23 u24 u25 u26 u27 u28 u29 u30 u31 u32 u33 u34 u35 u36 u37 u38 u39 u40 u41 u42 u43 u44 u45 u46 u47 u48 u49 u50 : Value) :
    ∀ K : Act → World → Prop, (∀ a w, knowsT5.wp Try.prog (bodyPost Try.prog Try.f8 (BoolBelow true W)) a w → K a w) → knowsR4.wp Try.prog (Exit.then K (bodyPost Try.prog Try.f8 (BoolBelow true W))) { tmps := #[u0, u1, .pointer (some ⟨X2, 0, none⟩), .pointer (some ⟨X3, 0, none⟩), u4, u5, u6, u7, u8, u9, u10, u11, u12, u13, u14, u15, u16, u17, u18, u19, u20, u21, u22, u23, u24, u25, u26, u27, u28, u29, u30, u31, u32, u33, u34, u35, u36, u37, u38, u39, u40, u41, u42, u43, u44, u45, u46, u47, u48, u49, u50], defers := [] } V := by
  intro K hK0
  have HK0 := Lib.hid hK0
  have HEND := Lib.hid hend
  have HS := Lib.hid hS
  have D0 := Lib.hid (show Below V.heap.size V V.drew from (Below.refl _ _).drew)
  clear hK0 hend hS
  unfold knowsR4 Try.f8
  dsimp only
  refine start_ (n := 11) (S := fun w' => True) (ds := []) #[false, false, false, false, false, false, false, false, false, false, false] (by kernel_rfl) rfl rfl trivial (fun hHeld => ?_)
  clear hHeld
  refine inv_at (B := [0, 0, 2, 6, 14, 30, 62, 127, 255, 0, 1023]) [0, 1, 2, 3, 4, 5, 6, 7, 8, 9, 10] (fun a0_ b a w' => ∃ ga gs gb gp, a = putSel a0_ b [(0, 22, .agg #[.int .i64 0, .int .i64 9, .int .i64 0, .slice (some ⟨bc, 0, none⟩) 1 1, .slice none 0 0, .slice none 0 0]), (1, 23, .agg #[.bool true, .int .i64 0]), (2, 24, .agg #[.bool false, .int .i64 5]), (3, 25, .agg #[.int .i64 1, .int .i64 6, .int .i64 0, .slice (some ⟨ga, 0, none⟩) 2 2, .slice none 0 0, .slice none 0 0]), (4, 26, .agg #[.bool true, .int .i64 1]), (5, 27, .slice (some ⟨gs, 0, none⟩) 1 1), (6, 28, .agg #[.int .i64 2, .int .i64 2, .int .i64 13, .slice (some ⟨gs, 0, none⟩) 1 1, .slice none 0 0, .slice none 0 0]), (7, 29, .slice (some ⟨gb, 0, none⟩) 3 3), (8, 30, .agg #[.slice (some ⟨gb, 0, none⟩) 3 3, .bool false, .int .i64 0]), (9, 4, .pointer (some ⟨gp, 0, none⟩))] ∧ KI V b [(3, ga, (.cells #[.bool true, .int .i64 0, .bool false, .int .i64 5] 25)), (5, gs, (.cells #[.bool true, .int .i64 1] 25)), (7, gb, (.cells #[.int .i64 0, .int .i64 9, .int .i64 0, .slice (some ⟨bc, 0, none⟩) 1 1, .slice none 0 0, .slice none 0 0, .int .i64 1, .int .i64 6, .int .i64 0, .slice (some ⟨ga, 0, none⟩) 2 2, .slice none 0 0, .slice none 0 0, .int .i64 2, .int .i64 2, .int .i64 13, .slice (some ⟨gs, 0, none⟩) 1 1, .slice none 0 0, .slice none 0 0] 54)), (9, gp, (.cells #[.slice none 0 0, .bool false, .int .i64 0] 27))] [(3, ga, (.cells #[.bool true, .int .i64 0, .bool false, .int .i64 5] 25)), (5, gs, (.cells #[.bool true, .int .i64 1] 25)), (7, gb, (.cells #[.int .i64 0, .int .i64 9, .int .i64 0, .slice (some ⟨bc, 0, none⟩) 1 1, .slice none 0 0, .slice none 0 0, .int .i64 1, .int .i64 6, .int .i64 0, .slice (some ⟨ga, 0, none⟩) 2 2, .slice none 0 0, .slice none 0 0, .int .i64 2, .int .i64 2, .int .i64 13, .slice (some ⟨gs, 0, none⟩) 1 1, .slice none 0 0, .slice none 0 0] 54)), (9, gp, (.cells #[.slice (some ⟨gb, 0, none⟩) 3 3, .bool false, .int .i64 0] 27))] 10 w') rfl (by kernel_rfl) (by kernel_rfl) (by kernel_rfl) ?_ ?_ ?_
  · exact ⟨0, 0, 0, 0, by simp only [putSel, Bool.false_eq_true, if_false], KI.start D0.out⟩
  · skip
    refine steps_cons ?_ ?_
    · rintro b a w' ⟨ga, gs, gb, gp, ha, hI⟩ hb_ hon hoff
      refine ⟨_, rfl, fun K hK => ?_⟩
      have e3 : a.tmps[3]? = some (.pointer (some ⟨X3, 0, none⟩)) := by rw [ha]; exact (putSel_off rfl).trans rfl
      obtain ⟨z0, z1, z2, z3, z4, z5⟩ := HS.out w' (hI.1 (hoff 10 (by kernel_rfl))).bel
      have hL : b 10 = false := hoff 10 (by kernel_rfl)
      replace ha := Lib.hid ha
      have HI := Lib.hid hI
      clear hI
      refine value_ (w1 := w') (v := .agg #[.int .i64 0, .int .i64 9, .int .i64 0, .slice (some ⟨bc, 0, none⟩) 1 1, .slice none 0 0, .slice none 0 0]) (by rfl) rfl ?_ ?_
      · go_simp
        try rfl
      exact hK.out _ _ ⟨ga, gs, gb, gp, (by rw [ha.out]; exact putSel_upk 0 hb_ rfl rfl rfl), KI.step hL (by decide) ((HI.out.1 hL).pass (by rfl))⟩
    refine steps_cons ?_ ?_
    · rintro b a w' ⟨ga, gs, gb, gp, ha, hI⟩ hb_ hon hoff
      refine ⟨_, rfl, fun K hK => ?_⟩
      have hL : b 10 = false := hoff 10 (by kernel_rfl)
      replace ha := Lib.hid ha
      have HI := Lib.hid hI
      clear hI
      refine goes_ Try.func16 (by kernel_rfl) rfl #[.int .i64 0] (by rfl) rfl rfl (by first | (simp only [List.map_toArray, List.map_cons, List.map_nil, Act.eval, Array.getD_eq_getD_getElem?, Option.getD_some]; done) | (simp only [List.map_toArray, List.map_cons, List.map_nil, Act.eval, Array.getD_eq_getD_getElem?, Option.getD_some]; rfl)) ?_
      refine (mkvar_any 0 w').mono ?_
      rintro e w2 ⟨rfl, hb2⟩
      exact ⟨_, rfl, hK.out _ _ ⟨ga, gs, gb, gp, (by rw [ha.out]; exact putSel_upk 1 hb_ rfl rfl rfl), KI.step hL (by decide) ((HI.out.1 hL).grow hb2 (by rfl))⟩⟩
    refine steps_cons ?_ ?_
    · rintro b a w' ⟨ga, gs, gb, gp, ha, hI⟩ hb_ hon hoff
      refine ⟨_, rfl, fun K hK => ?_⟩
      have hL : b 10 = false := hoff 10 (by kernel_rfl)
      replace ha := Lib.hid ha
      have HI := Lib.hid hI
      clear hI
      refine goes_ Try.func17 (by kernel_rfl) rfl #[.int .i64 5] (by rfl) rfl rfl (by first | (simp only [List.map_toArray, List.map_cons, List.map_nil, Act.eval, Array.getD_eq_getD_getElem?, Option.getD_some]; done) | (simp only [List.map_toArray, List.map_cons, List.map_nil, Act.eval, Array.getD_eq_getD_getElem?, Option.getD_some]; rfl)) ?_
      refine (mkint_any 5 w').mono ?_
      rintro e w2 ⟨rfl, hb2⟩
      exact ⟨_, rfl, hK.out _ _ ⟨ga, gs, gb, gp, (by rw [ha.out]; exact putSel_upk 2 hb_ rfl rfl rfl), KI.step hL (by decide) ((HI.out.1 hL).grow hb2 (by rfl))⟩⟩
    refine steps_cons ?_ ?_
    · rintro b a w' ⟨ga, gs, gb, gp, ha, hI⟩ hb_ hon hoff
      refine ⟨_, rfl, fun K hK => ?_⟩
      have e23 : a.tmps[23]? = some (.agg #[.bool true, .int .i64 0]) := by rw [ha]; exact putSel_on (e := (1, 23, .agg #[.bool true, .int .i64 0])) 1 rfl rfl (hon 1 (by kernel_rfl)) rfl
      have e24 : a.tmps[24]? = some (.agg #[.bool false, .int .i64 5]) := by rw [ha]; exact putSel_on (e := (2, 24, .agg #[.bool false, .int .i64 5])) 2 rfl rfl (hon 2 (by kernel_rfl)) rfl
      have o7 : b 7 = false := hoff 7 (by kernel_rfl)
      have hL : b 10 = false := hoff 10 (by kernel_rfl)
      replace ha := Lib.hid ha
      have HI := Lib.hid hI
      clear hI
      refine goes_ Try.func15 (by kernel_rfl) rfl #[.int .i64 1, .agg #[.bool true, .int .i64 0], .agg #[.bool false, .int .i64 5]] (by rfl) rfl rfl (by first | (simp only [List.map_toArray, List.map_cons, List.map_nil, Act.eval, Array.getD_eq_getD_getElem?, Option.getD_some, e23, e24]; done) | (simp only [List.map_toArray, List.map_cons, List.map_nil, Act.eval, Array.getD_eq_getD_getElem?, Option.getD_some, e23, e24]; rfl)) ?_
      refine (mkapp_any 1 true false 0 5 w').mono ?_
      rintro e w2 ⟨gn, rfl, hg1, hg2, hb2⟩
      refine ⟨_, rfl, hK.out _ _ ⟨gn, gs, gb, gp, (by rw [ha.out, putSel_dep (L' := [(0, 22, .agg #[.int .i64 0, .int .i64 9, .int .i64 0, .slice (some ⟨bc, 0, none⟩) 1 1, .slice none 0 0, .slice none 0 0]), (1, 23, .agg #[.bool true, .int .i64 0]), (2, 24, .agg #[.bool false, .int .i64 5]), (3, 25, .agg #[.int .i64 1, .int .i64 6, .int .i64 0, .slice (some ⟨ga, 0, none⟩) 2 2, .slice none 0 0, .slice none 0 0]), (4, 26, .agg #[.bool true, .int .i64 1]), (5, 27, .slice (some ⟨gs, 0, none⟩) 1 1), (6, 28, .agg #[.int .i64 2, .int .i64 2, .int .i64 13, .slice (some ⟨gs, 0, none⟩) 1 1, .slice none 0 0, .slice none 0 0]), (7, 29, .slice (some ⟨gb, 0, none⟩) 3 3), (8, 30, .agg #[.slice (some ⟨gb, 0, none⟩) 3 3, .bool false, .int .i64 0]), (9, 4, .pointer (some ⟨gp, 0, none⟩))]) (.same (.same (.same (.same (.same (.same (.same (.same (.same (.same (.nil)))))))))))]; exact putSel_upk 3 hb_ rfl rfl rfl), KI.step hL (by decide) ((HI.out.1 hL).made 3 hb2 hg1 hg2 ?_)⟩⟩
      intro x hx
      simp only [List.mem_cons, List.not_mem_nil, or_false] at hx
      rcases hx with rfl | rfl | rfl | rfl
      · exact .inl rfl
      · exact .inr ⟨by simp, .inl (by simp)⟩
      · exact .inr ⟨by simp, .inr o7⟩
      · exact .inr ⟨by simp, .inl (by simp)⟩
    refine steps_cons ?_ ?_
    · rintro b a w' ⟨ga, gs, gb, gp, ha, hI⟩ hb_ hon hoff
      refine ⟨_, rfl, fun K hK => ?_⟩
      have hL : b 10 = false := hoff 10 (by kernel_rfl)
      replace ha := Lib.hid ha
      have HI := Lib.hid hI
      clear hI
      refine goes_ Try.func16 (by kernel_rfl) rfl #[.int .i64 1] (by rfl) rfl rfl (by first | (simp only [List.map_toArray, List.map_cons, List.map_nil, Act.eval, Array.getD_eq_getD_getElem?, Option.getD_some]; done) | (simp only [List.map_toArray, List.map_cons, List.map_nil, Act.eval, Array.getD_eq_getD_getElem?, Option.getD_some]; rfl)) ?_
      refine (mkvar_any 1 w').mono ?_
      rintro e w2 ⟨rfl, hb2⟩
      exact ⟨_, rfl, hK.out _ _ ⟨ga, gs, gb, gp, (by rw [ha.out]; exact putSel_upk 4 hb_ rfl rfl rfl), KI.step hL (by decide) ((HI.out.1 hL).grow hb2 (by rfl))⟩⟩
    refine steps_cons ?_ ?_
    · rintro b a w' ⟨ga, gs, gb, gp, ha, hI⟩ hb_ hon hoff
      refine ⟨_, rfl, fun K hK => ?_⟩
      have e26 : a.tmps[26]? = some (.agg #[.bool true, .int .i64 1]) := by rw [ha]; exact putSel_on (e := (4, 26, .agg #[.bool true, .int .i64 1])) 4 rfl rfl (hon 4 (by kernel_rfl)) rfl
      have o6 : b 6 = false := hoff 6 (by kernel_rfl)
      have o7 : b 7 = false := hoff 7 (by kernel_rfl)
      have hL : b 10 = false := hoff 10 (by kernel_rfl)
      replace ha := Lib.hid ha
      have HI := Lib.hid hI
      clear hI
      refine value_ (w1 := w'.alloc (.cells #[.bool true, .int .i64 1] 25)) (v := .slice (some ⟨w'.heap.size, 0, none⟩) 1 1) (by rfl) rfl ?_ ?_
      · go_simp
        try rfl
      refine hK.out _ _ ⟨ga, w'.heap.size, gb, gp, (by rw [ha.out, putSel_dep (L' := [(0, 22, .agg #[.int .i64 0, .int .i64 9, .int .i64 0, .slice (some ⟨bc, 0, none⟩) 1 1, .slice none 0 0, .slice none 0 0]), (1, 23, .agg #[.bool true, .int .i64 0]), (2, 24, .agg #[.bool false, .int .i64 5]), (3, 25, .agg #[.int .i64 1, .int .i64 6, .int .i64 0, .slice (some ⟨ga, 0, none⟩) 2 2, .slice none 0 0, .slice none 0 0]), (4, 26, .agg #[.bool true, .int .i64 1]), (5, 27, .slice (some ⟨gs, 0, none⟩) 1 1), (6, 28, .agg #[.int .i64 2, .int .i64 2, .int .i64 13, .slice (some ⟨w'.heap.size, 0, none⟩) 1 1, .slice none 0 0, .slice none 0 0]), (7, 29, .slice (some ⟨gb, 0, none⟩) 3 3), (8, 30, .agg #[.slice (some ⟨gb, 0, none⟩) 3 3, .bool false, .int .i64 0]), (9, 4, .pointer (some ⟨gp, 0, none⟩))]) (.same (.same (.same (.same (.same (.same (.turn o6 (.same (.same (.same (.nil)))))))))))]; exact putSel_upk 5 hb_ rfl rfl rfl), KI.step hL (by decide) ((HI.out.1 hL).new 5 _ ?_)⟩
      intro x hx
      simp only [List.mem_cons, List.not_mem_nil, or_false] at hx
      rcases hx with rfl | rfl | rfl | rfl
      · exact .inr ⟨by simp, .inl (by simp)⟩
      · exact .inl rfl
      · exact .inr ⟨by simp, .inr o7⟩
      · exact .inr ⟨by simp, .inl (by simp)⟩
    refine steps_cons ?_ ?_
    · rintro b a w' ⟨ga, gs, gb, gp, ha, hI⟩ hb_ hon hoff
      refine ⟨_, rfl, fun K hK => ?_⟩
      have e27 : a.tmps[27]? = some (.slice (some ⟨gs, 0, none⟩) 1 1) := by rw [ha]; exact putSel_on (e := (5, 27, .slice (some ⟨gs, 0, none⟩) 1 1)) 5 rfl rfl (hon 5 (by kernel_rfl)) rfl
      have hL : b 10 = false := hoff 10 (by kernel_rfl)
      replace ha := Lib.hid ha
      have HI := Lib.hid hI
      clear hI
      refine goes_ Try.func19 (by kernel_rfl) rfl #[.int .i64 2, .int .i64 13, .slice (some ⟨gs, 0, none⟩) 1 1] (by rfl) rfl rfl (by first | (simp only [List.map_toArray, List.map_cons, List.map_nil, Act.eval, Array.getD_eq_getD_getElem?, Option.getD_some, e27]; done) | (simp only [List.map_toArray, List.map_cons, List.map_nil, Act.eval, Array.getD_eq_getD_getElem?, Option.getD_some, e27]; rfl)) ?_
      refine (mkbind_any 2 13 _ 1 1 w').mono ?_
      rintro e w2 ⟨rfl, hb2⟩
      exact ⟨_, rfl, hK.out _ _ ⟨ga, gs, gb, gp, (by rw [ha.out]; exact putSel_upk 6 hb_ rfl rfl rfl), KI.step hL (by decide) ((HI.out.1 hL).grow hb2 (by rfl))⟩⟩
    refine steps_cons ?_ ?_
    · rintro b a w' ⟨ga, gs, gb, gp, ha, hI⟩ hb_ hon hoff
      refine ⟨_, rfl, fun K hK => ?_⟩
      have e22 : a.tmps[22]? = some (.agg #[.int .i64 0, .int .i64 9, .int .i64 0, .slice (some ⟨bc, 0, none⟩) 1 1, .slice none 0 0, .slice none 0 0]) := by rw [ha]; exact putSel_on (e := (0, 22, .agg #[.int .i64 0, .int .i64 9, .int .i64 0, .slice (some ⟨bc, 0, none⟩) 1 1, .slice none 0 0, .slice none 0 0])) 0 rfl rfl (hon 0 (by kernel_rfl)) rfl
      have e25 : a.tmps[25]? = some (.agg #[.int .i64 1, .int .i64 6, .int .i64 0, .slice (some ⟨ga, 0, none⟩) 2 2, .slice none 0 0, .slice none 0 0]) := by rw [ha]; exact putSel_on (e := (3, 25, .agg #[.int .i64 1, .int .i64 6, .int .i64 0, .slice (some ⟨ga, 0, none⟩) 2 2, .slice none 0 0, .slice none 0 0])) 3 rfl rfl (hon 3 (by kernel_rfl)) rfl
      have e28 : a.tmps[28]? = some (.agg #[.int .i64 2, .int .i64 2, .int .i64 13, .slice (some ⟨gs, 0, none⟩) 1 1, .slice none 0 0, .slice none 0 0]) := by rw [ha]; exact putSel_on (e := (6, 28, .agg #[.int .i64 2, .int .i64 2, .int .i64 13, .slice (some ⟨gs, 0, none⟩) 1 1, .slice none 0 0, .slice none 0 0])) 6 rfl rfl (hon 6 (by kernel_rfl)) rfl
      have o8 : b 8 = false := hoff 8 (by kernel_rfl)
      have hL : b 10 = false := hoff 10 (by kernel_rfl)
      replace ha := Lib.hid ha
      have HI := Lib.hid hI
      clear hI
      refine value_ (w1 := w'.alloc (.cells #[.int .i64 0, .int .i64 9, .int .i64 0, .slice (some ⟨bc, 0, none⟩) 1 1, .slice none 0 0, .slice none 0 0, .int .i64 1, .int .i64 6, .int .i64 0, .slice (some ⟨ga, 0, none⟩) 2 2, .slice none 0 0, .slice none 0 0, .int .i64 2, .int .i64 2, .int .i64 13, .slice (some ⟨gs, 0, none⟩) 1 1, .slice none 0 0, .slice none 0 0] 54)) (v := .slice (some ⟨w'.heap.size, 0, none⟩) 3 3) (by rfl) rfl ?_ ?_
      · go_simp
        try rfl
      refine hK.out _ _ ⟨ga, gs, w'.heap.size, gp, (by rw [ha.out, putSel_dep (L' := [(0, 22, .agg #[.int .i64 0, .int .i64 9, .int .i64 0, .slice (some ⟨bc, 0, none⟩) 1 1, .slice none 0 0, .slice none 0 0]), (1, 23, .agg #[.bool true, .int .i64 0]), (2, 24, .agg #[.bool false, .int .i64 5]), (3, 25, .agg #[.int .i64 1, .int .i64 6, .int .i64 0, .slice (some ⟨ga, 0, none⟩) 2 2, .slice none 0 0, .slice none 0 0]), (4, 26, .agg #[.bool true, .int .i64 1]), (5, 27, .slice (some ⟨gs, 0, none⟩) 1 1), (6, 28, .agg #[.int .i64 2, .int .i64 2, .int .i64 13, .slice (some ⟨gs, 0, none⟩) 1 1, .slice none 0 0, .slice none 0 0]), (7, 29, .slice (some ⟨gb, 0, none⟩) 3 3), (8, 30, .agg #[.slice (some ⟨w'.heap.size, 0, none⟩) 3 3, .bool false, .int .i64 0]), (9, 4, .pointer (some ⟨gp, 0, none⟩))]) (.same (.same (.same (.same (.same (.same (.same (.same (.turn o8 (.same (.nil)))))))))))]; exact putSel_upk 7 hb_ rfl rfl rfl), KI.step hL (by decide) ((HI.out.1 hL).new 7 _ ?_)⟩
      intro x hx
      simp only [List.mem_cons, List.not_mem_nil, or_false] at hx
      rcases hx with rfl | rfl | rfl | rfl
      · exact .inr ⟨by simp, .inl (by simp)⟩
      · exact .inr ⟨by simp, .inl (by simp)⟩
      · exact .inl rfl
      · exact .inr ⟨by simp, .inl (by simp)⟩
    refine steps_cons ?_ ?_
    · rintro b a w' ⟨ga, gs, gb, gp, ha, hI⟩ hb_ hon hoff
      refine ⟨_, rfl, fun K hK => ?_⟩
      have e29 : a.tmps[29]? = some (.slice (some ⟨gb, 0, none⟩) 3 3) := by rw [ha]; exact putSel_on (e := (7, 29, .slice (some ⟨gb, 0, none⟩) 3 3)) 7 rfl rfl (hon 7 (by kernel_rfl)) rfl
      have hL : b 10 = false := hoff 10 (by kernel_rfl)
      replace ha := Lib.hid ha
      have HI := Lib.hid hI
      clear hI
      refine value_ (w1 := w') (v := .agg #[.slice (some ⟨gb, 0, none⟩) 3 3, .bool false, .int .i64 0]) (by rfl) rfl ?_ ?_
      · go_simp
        try rfl
      exact hK.out _ _ ⟨ga, gs, gb, gp, (by rw [ha.out]; exact putSel_upk 8 hb_ rfl rfl rfl), KI.step hL (by decide) ((HI.out.1 hL).pass (by rfl))⟩
    refine steps_cons ?_ ?_
    · rintro b a w' ⟨ga, gs, gb, gp, ha, hI⟩ hb_ hon hoff
      refine ⟨_, rfl, fun K hK => ?_⟩
      have hL : b 10 = false := hoff 10 (by kernel_rfl)
      replace ha := Lib.hid ha
      have HI := Lib.hid hI
      clear hI
      refine value_ (w1 := w'.alloc (.cells #[.slice none 0 0, .bool false, .int .i64 0] 27)) (v := .pointer (some ⟨w'.heap.size, 0, none⟩)) (by rfl) rfl ?_ ?_
      · go_simp
        try rfl
      refine hK.out _ _ ⟨ga, gs, gb, w'.heap.size, (by rw [ha.out, putSel_dep (L' := [(0, 22, .agg #[.int .i64 0, .int .i64 9, .int .i64 0, .slice (some ⟨bc, 0, none⟩) 1 1, .slice none 0 0, .slice none 0 0]), (1, 23, .agg #[.bool true, .int .i64 0]), (2, 24, .agg #[.bool false, .int .i64 5]), (3, 25, .agg #[.int .i64 1, .int .i64 6, .int .i64 0, .slice (some ⟨ga, 0, none⟩) 2 2, .slice none 0 0, .slice none 0 0]), (4, 26, .agg #[.bool true, .int .i64 1]), (5, 27, .slice (some ⟨gs, 0, none⟩) 1 1), (6, 28, .agg #[.int .i64 2, .int .i64 2, .int .i64 13, .slice (some ⟨gs, 0, none⟩) 1 1, .slice none 0 0, .slice none 0 0]), (7, 29, .slice (some ⟨gb, 0, none⟩) 3 3), (8, 30, .agg #[.slice (some ⟨gb, 0, none⟩) 3 3, .bool false, .int .i64 0]), (9, 4, .pointer (some ⟨gp, 0, none⟩))]) (.same (.same (.same (.same (.same (.same (.same (.same (.same (.same (.nil)))))))))))]; exact putSel_upk 9 hb_ rfl rfl rfl), KI.step hL (by decide) ((HI.out.1 hL).new 9 _ ?_)⟩
      intro x hx
      simp only [List.mem_cons, List.not_mem_nil, or_false] at hx
      rcases hx with rfl | rfl | rfl | rfl
      · exact .inr ⟨by simp, .inl (by simp)⟩
      · exact .inr ⟨by simp, .inl (by simp)⟩
      · exact .inr ⟨by simp, .inl (by simp)⟩
      · exact .inl rfl
    refine steps_cons ?_ ?_
    · rintro b a w' ⟨ga, gs, gb, gp, ha, hI⟩ hb_ hon hoff
      refine ⟨_, rfl, fun K hK => ?_⟩
      have e30 : a.tmps[30]? = some (.agg #[.slice (some ⟨gb, 0, none⟩) 3 3, .bool false, .int .i64 0]) := by rw [ha]; exact putSel_on (e := (8, 30, .agg #[.slice (some ⟨gb, 0, none⟩) 3 3, .bool false, .int .i64 0])) 8 rfl rfl (hon 8 (by kernel_rfl)) rfl
      have e4 : a.tmps[4]? = some (.pointer (some ⟨gp, 0, none⟩)) := by rw [ha]; exact putSel_on (e := (9, 4, .pointer (some ⟨gp, 0, none⟩))) 9 rfl rfl (hon 9 (by kernel_rfl)) rfl
      have q3 := hon 3 (by kernel_rfl)
      have q5 := hon 5 (by kernel_rfl)
      have q7 := hon 7 (by kernel_rfl)
      have q9 := hon 9 (by kernel_rfl)
      replace ha := Lib.hid ha
      have HI := Lib.hid hI
      clear hI
      obtain ⟨y0, y1, y2, y3⟩ := zero3 (HI.out.1 hb_) (i := 9) (g := gp) (c0 := .slice none 0 0) (c1 := .bool false) (c2 := .int .i64 0) (t := 27) (by simp) q9
      refine skip_ (w1 := set3 w' gp (.slice (some ⟨gb, 0, none⟩) 3 3) (.bool false) (.int .i64 0)) (by rfl) rfl ?_ ?_
      · unfold set3
        go_simp
        try rfl
      refine hK.out _ _ ⟨ga, gs, gb, gp, (by rw [ha.out]; exact (putSel_skip rfl).symm), KI.last ((HI.out.1 hb_).set3 _ _ _ (i := 9) (g := gp) (c0 := .slice none 0 0) (c1 := .bool false) (c2 := .int .i64 0) (t := 27) (by simp) q9 ?_)⟩
      intro x hx
      simp only [List.mem_cons, List.not_mem_nil, or_false] at hx
      rcases hx with rfl | rfl | rfl | rfl
      · exact .inr ⟨by simp, by simp, by simp, q3⟩
      · exact .inr ⟨by simp, by simp, by simp, q5⟩
      · exact .inr ⟨by simp, by simp, by simp, q7⟩
      · exact .inl ⟨rfl, rfl, rfl⟩
    exact steps_nil
  rintro b a w' hall ⟨ga, gs, gb, gp, ha, hI⟩
  have hl : ∀ j, j ≤ 10 → b j = true := fun j hj => hall j (by
    have : j = 0 ∨ j = 1 ∨ j = 2 ∨ j = 3 ∨ j = 4 ∨ j = 5 ∨ j = 6 ∨ j = 7 ∨ j = 8 ∨ j = 9 ∨ j = 10 := by omega
    rcases this with rfl | rfl | rfl | rfl | rfl | rfl | rfl | rfl | rfl | rfl | rfl <;> rfl)
  have b0 := hl 0 (by decide)
  have b1 := hl 1 (by decide)
  have b2 := hl 2 (by decide)
  have b3 := hl 3 (by decide)
  have b4 := hl 4 (by decide)
  have b5 := hl 5 (by decide)
  have b6 := hl 6 (by decide)
  have b7 := hl 7 (by decide)
  have b8 := hl 8 (by decide)
  have b9 := hl 9 (by decide)
  have b10 := hl 10 (by decide)
  have hF := hI.2 b10
  subst ha
  simp only [putSel, b0, b1, b2, b3, b4, b5, b6, b7, b8, b9, if_true, Act.put, List.setIfInBounds_toArray, List.set_cons_zero, List.set_cons_succ, Exit.then]
  exact HK0.out _ _ (HEND.out _ ga gs gb gp hF.bel (hF.at_ (3, ga, (.cells #[.bool true, .int .i64 0, .bool false, .int .i64 5] 25)) (by simp) b3).2 (hF.at_ (5, gs, (.cells #[.bool true, .int .i64 1] 25)) (by simp) b5).2 (hF.at_ (7, gb, (.cells #[.int .i64 0, .int .i64 9, .int .i64 0, .slice (some ⟨bc, 0, none⟩) 1 1, .slice none 0 0, .slice none 0 0, .int .i64 1, .int .i64 6, .int .i64 0, .slice (some ⟨ga, 0, none⟩) 2 2, .slice none 0 0, .slice none 0 0, .int .i64 2, .int .i64 2, .int .i64 13, .slice (some ⟨gs, 0, none⟩) 1 1, .slice none 0 0, .slice none 0 0] 54)) (by simp) b7).2 (hF.at_ (9, gp, (.cells #[.slice (some ⟨gb, 0, none⟩) 3 3, .bool false, .int .i64 0] 27)) (by simp) b9).2 _ _ _ _ _ _ _ _ _ _ _ _ _ _ _ _ _ _ _ _ _ _ _ _ _ _ _ _ _ _ _ _ _ _ _ _ _ _ _ _ _ _ _ _ _ _ _ _ _)
end Go.Proofs.Ytnobggabjpcbfaa

/-
  knows: its walk.
-/
set_option linter.unusedVariables false
set_option linter.unusedSimpArgs false
namespace Go.Proofs.Ytnobggabjpcbfaa
open Go.RowKit Go.Maps

theorem ints_nil (B : Nat) (w : World) : IntsIn B w none [] := ⟨by simp, .inl rfl⟩
theorem AnfAt.plain {B : Nat} {w : World} {b o i : Nat} {x k n : Int} {ats : List Atm} {rest : Anf} {Aa : Option Addr} {ca : Nat} (hb : b < B)
    (c0 : w.cell? ⟨b, o + i * 6, none⟩ = some (.int .i64 x)) (c1 : w.cell? ⟨b, o + i * 6 + 1, none⟩ = some (.int .i64 k)) (c2 : w.cell? ⟨b, o + i * 6 + 2, none⟩ = some (.int .i64 n))
    (c3 : w.cell? ⟨b, o + i * 6 + 3, none⟩ = some (.slice Aa ats.length ca)) (c4 : w.cell? ⟨b, o + i * 6 + 4, none⟩ = some (.slice none 0 0)) (c5 : w.cell? ⟨b, o + i * 6 + 5, none⟩ = some (.slice none 0 0))
    (ha : AtomsIn B w Aa ats) (hac : ats.length ≤ ca) (hr : AnfAt B w b o (i + 1) rest) : AnfAt B w b o i (.bind x k n ats [] [] rest) :=
  .bind (ks := []) (bl := []) (bb := 0) (oo := 0) (AB := fun _ => none) (CB := fun _ => 0) (BB := fun _ => 0) (OO := fun _ => 0) hb c0 c1 c2 c3 c4 c5 ha hac (ints_nil B w) (Nat.le_refl _) (Nat.le_refl _) (by simp) (by simp)
    (by intro j h; simp at h) (by intro j h; simp at h) (by intro j h; simp at h) (by intro j h; simp at h) (by intro j h; simp at h) hr
theorem atoms1 {w : World} {g : Nat} {v : Bool} {n : Int} {t : TypeId} (h : w.heap[g]? = some (.cells #[.bool v, .int .i64 n] t (0, 0))) : AtomsIn w.heap.size w (some ⟨g, 0, none⟩) [⟨v, n⟩] := by
  refine ⟨by simp, .inr ⟨g, 0, rfl, heap_lt h, fun j hj => ?_⟩⟩
  obtain rfl : j = 0 := by simpa using hj
  exact ⟨by simp [World.cell?, h], by simp [World.cell?, h]⟩
theorem atoms2 {w : World} {g : Nat} {v v' : Bool} {n n' : Int} {t : TypeId} (h : w.heap[g]? = some (.cells #[.bool v, .int .i64 n, .bool v', .int .i64 n'] t (0, 0))) : AtomsIn w.heap.size w (some ⟨g, 0, none⟩) [⟨v, n⟩, ⟨v', n'⟩] := by
  refine ⟨by simp, .inr ⟨g, 0, rfl, heap_lt h, fun j hj => ?_⟩⟩
  have : j = 0 ∨ j = 1 := by simp at hj; omega
  rcases this with rfl | rfl
  · exact ⟨by simp [World.cell?, h], by simp [World.cell?, h]⟩
  · exact ⟨by simp [World.cell?, h], by simp [World.cell?, h]⟩
theorem kbody_in {w : World} {bf g3 g5 : Nat} (hf : w.heap[bf]? = some (.cells #[.bool true, .int .i64 0] 25 (0, 0))) (h3 : w.heap[g3]? = some (.cells #[.bool true, .int .i64 1, .bool true, .int .i64 2] 25 (0, 0))) (h5 : w.heap[g5]? = some (.cells #[.int .i64 2, .int .i64 4, .int .i64 1, .slice (some ⟨bf, 0, none⟩) 1 1, .slice none 0 0, .slice none 0 0, .int .i64 3, .int .i64 2, .int .i64 1, .slice (some ⟨g3, 0, none⟩) 2 2, .slice none 0 0, .slice none 0 0] 54 (0, 0))) :
    BodyIn w.heap.size w kbody #[.slice (some ⟨g5, 0, none⟩) 2 2, .bool true, .int .i64 3] := by
  refine ⟨some ⟨g5, 0, none⟩, 2, g5, 0, rfl, Nat.le_refl _, by decide, fun _ => rfl, ?_⟩
  refine .plain (heap_lt h5) (Aa := some ⟨bf, 0, none⟩) (ca := 1) ?_ ?_ ?_ ?_ ?_ ?_ (atoms1 hf) (Nat.le_refl _) ?_
  iterate 6 simp [World.cell?, h5]
  refine .plain (heap_lt h5) (Aa := some ⟨g3, 0, none⟩) (ca := 2) ?_ ?_ ?_ ?_ ?_ ?_ (atoms2 h3) (Nat.le_refl _) (.ret _ _ _ _)
  iterate 6 simp [World.cell?, h5]
theorem kmain_in {w : World} {bc ga gs gb : Nat} (hc : w.heap[bc]? = some (.cells #[.bool false, .int .i64 7] 25 (0, 0))) (ha : w.heap[ga]? = some (.cells #[.bool true, .int .i64 0, .bool false, .int .i64 5] 25 (0, 0))) (hs : w.heap[gs]? = some (.cells #[.bool true, .int .i64 1] 25 (0, 0))) (hb : w.heap[gb]? = some (.cells #[.int .i64 0, .int .i64 9, .int .i64 0, .slice (some ⟨bc, 0, none⟩) 1 1, .slice none 0 0, .slice none 0 0, .int .i64 1, .int .i64 6, .int .i64 0, .slice (some ⟨ga, 0, none⟩) 2 2, .slice none 0 0, .slice none 0 0, .int .i64 2, .int .i64 2, .int .i64 13, .slice (some ⟨gs, 0, none⟩) 1 1, .slice none 0 0, .slice none 0 0] 54 (0, 0))) :
    BodyIn w.heap.size w kmain #[.slice (some ⟨gb, 0, none⟩) 3 3, .bool false, .int .i64 0] := by
  refine ⟨some ⟨gb, 0, none⟩, 3, gb, 0, rfl, Nat.le_refl _, by decide, fun _ => rfl, ?_⟩
  refine .plain (heap_lt hb) (Aa := some ⟨bc, 0, none⟩) (ca := 1) ?_ ?_ ?_ ?_ ?_ ?_ (atoms1 hc) (Nat.le_refl _) ?_
  iterate 6 simp [World.cell?, hb]
  refine .plain (heap_lt hb) (Aa := some ⟨ga, 0, none⟩) (ca := 2) ?_ ?_ ?_ ?_ ?_ ?_ (atoms2 ha) (Nat.le_refl _) ?_
  iterate 6 simp [World.cell?, hb]
  refine .plain (heap_lt hb) (Aa := some ⟨gs, 0, none⟩) (ca := 1) ?_ ?_ ?_ ?_ ?_ ?_ (atoms1 hs) (Nat.le_refl _) (.ret _ _ _ _)
  iterate 6 simp [World.cell?, hb]
theorem heap1_ (w : World) (a b : Obj) : ((w.alloc a).alloc b).heap[w.heap.size]? = some a :=
  (((Below.refl _ _).alloc (Nat.le_refl _) _ : Below (w.alloc a).heap.size (w.alloc a) ((w.alloc a).alloc b)).block w.heap.size (by simp)).trans (World.alloc_heap_new w a)
theorem heap2_ (w : World) (a b : Obj) : ((w.alloc a).alloc b).heap[w.heap.size + 1]? = some b := by
  have := World.alloc_heap_new (w.alloc a) b
  rw [World.size_alloc] at this
  exact this
theorem BodyIn.later {w w' : World} {t : Anf} {v : Array Value} (h : BodyIn w.heap.size w t v) (hb : Below w.heap.size w w') : BodyIn w'.heap.size w' t v := (h.kept hb).mono hb.size
theorem FlatIn.later {w w' : World} {p : FlatP} {v : Array Value} (h : FlatIn w.heap.size w p v) (hb : Below w.heap.size w w') : FlatIn w'.heap.size w' p v := (h.kept hb).mono hb.size
/-- a run in one word -/
def RunPost (pe : PEnd) (w : World) (e : Ending) (w' : World) : Prop := ∃ v A c, v = .agg #[.int .i64 pe.kind, .int .i64 pe.n, .slice A pe.out.length c, .int .i64 pe.steps] ∧ e = .returned v ∧ EndV w' pe v ∧ Below w.heap.size w w' ∧ (∀ a, A = some a → w.heap.size ≤ a.block)
theorem run_ready {w : World} {p : FlatP} {v : Array Value} (hin : FlatIn w.heap.size w p v) (hsm : SmallF p) {inp : List Int} {Ai : Option Addr} {ci : Nat} (hi : IntsIn w.heap.size w Ai inp) (hci : inp.length ≤ ci) (f : Int) :
    Calls Try.prog 9 #[.agg v, .slice Ai inp.length ci, .int .i64 f] w (RunPost (runE p inp f) w) := by
  refine (frun_any hin (Nat.le_refl _) (fun W v hin => cright_any hsm W hin) hi hci f).mono fun e w' ⟨A, c, h1, h2, h3, h4, h5⟩ => ⟨_, A, c, rfl, h1, ⟨A, c, rfl, h2⟩, h5, h4⟩
theorem ints_one {V : World} {b : Nat} {n : Int} (h : V.cell? ⟨b, 0, none⟩ = some (.int .i64 n)) : IntsIn V.heap.size V (some ⟨b, 0, none⟩) [n] := by
  refine ⟨by simp, .inr ⟨b, 0, rfl, World.block_lt_of_cell? _ _ h, fun j hj => ?_⟩⟩
  obtain rfl : j = 0 := by simpa using hj
  simpa [nth] using h

set_option maxRecDepth 100000 in
set_option maxHeartbeats 8000000 in
theorem kn_tail5 {W V : World} (hb : Below W.heap.size W V) {X2 X4 g5 gb : Nat} (h2 : V.heap[X2]? = some (.cells #[.slice (some ⟨g5, 0, none⟩) 2 2, .bool true, .int .i64 3] 27 (0, 0))) (h4 : V.heap[X4]? = some (.cells #[.slice (some ⟨gb, 0, none⟩) 3 3, .bool false, .int .i64 0] 27 (0, 0)))
    (hbody : BodyIn V.heap.size V kbody #[.slice (some ⟨g5, 0, none⟩) 2 2, .bool true, .int .i64 3]) (hmain : BodyIn V.heap.size V kmain #[.slice (some ⟨gb, 0, none⟩) 3 3, .bool false, .int .i64 0]) (u0 u1 u3 u5 u6 u7 u8 u9 u10 u11 u12 u13 u14 u15 u16 u17 u18 u19 u20 u21 u22 u23 u24 u25 u26 u27 u28 u29 u30 u31 u32 u33 u34 u35 u36 u37 u38 u39 u40 u41 u42 u43 u44 u45 u46 u47 u48 u49 u50 : Value) :
    knowsT5.wp Try.prog (bodyPost Try.prog Try.f8 (BoolBelow true W)) { tmps := #[u0, u1, .pointer (some ⟨X2, 0, none⟩), u3, .pointer (some ⟨X4, 0, none⟩), u5, u6, u7, u8, u9, u10, u11, u12, u13, u14, u15, u16, u17, u18, u19, u20, u21, u22, u23, u24, u25, u26, u27, u28, u29, u30, u31, u32, u33, u34, u35, u36, u37, u38, u39, u40, u41, u42, u43, u44, u45, u46, u47, u48, u49, u50], defers := [] } V := by
  obtain ⟨V5, hV5⟩ : ∃ V5, V.alloc (.cells #[.int .i64 0, .int .i64 1, .slice (some ⟨g5, 0, none⟩) 2 2, .bool true, .int .i64 3] 42) = V5 := ⟨_, rfl⟩
  have hb5 : Below V.heap.size V V5 := by rw [← hV5]; exact (Below.refl _ _).alloc (Nat.le_refl _) _
  have h55 : V5.heap[V.heap.size]? = some (.cells #[.int .i64 0, .int .i64 1, .slice (some ⟨g5, 0, none⟩) 2 2, .bool true, .int .i64 3] 42 (0, 0)) := by rw [← hV5]; exact World.alloc_heap_new V _
  have hflat : FlatIn V5.heap.size V5 kprog #[.slice (some ⟨V.heap.size, 0, none⟩) 1 1, .slice (some ⟨gb, 0, none⟩) 3 3, .bool false, .int .i64 0] := by
    refine ⟨some ⟨V.heap.size, 0, none⟩, 1, V.heap.size, 0, _, _, _, rfl, Nat.le_refl _, by simp [kprog], hmain.later hb5, fun _ => ⟨rfl, heap_lt h55⟩, fun j hj => ?_⟩
    obtain rfl : j = 0 := by simpa [kprog] using hj
    exact ⟨_, _, _, by simp [World.cell?, h55, kprog], by simp [World.cell?, h55, kprog], by simp [World.cell?, h55], by simp [World.cell?, h55], by simp [World.cell?, h55], hbody.later hb5⟩
  have hR := run_ready hflat ksmall (inp := []) (Ai := none) (ci := 0) (ints_nil _ _) (Nat.le_refl _) 99
  rw [know1] at hR
  have HR := Lib.hid hR
  have HB := Lib.hid (hb.trans (hb5.mono hb.size))
  have a0 : V.cell? ⟨X2, 0, none⟩ = some (.slice (some ⟨g5, 0, none⟩) 2 2) := by simp [World.cell?, h2]
  have a1 : V.cell? ⟨X2, 1, none⟩ = some (.bool true) := by simp [World.cell?, h2]
  have a2 : V.cell? ⟨X2, 2, none⟩ = some (.int .i64 3) := by simp [World.cell?, h2]
  have b0 : V5.cell? ⟨X4, 0, none⟩ = some (.slice (some ⟨gb, 0, none⟩) 3 3) := cell_behind hb5 (by simp [World.cell?, h4])
  have b1 : V5.cell? ⟨X4, 1, none⟩ = some (.bool false) := cell_behind hb5 (by simp [World.cell?, h4])
  have b2 : V5.cell? ⟨X4, 2, none⟩ = some (.int .i64 0) := cell_behind hb5 (by simp [World.cell?, h4])
  have hs5 : V.heap.size ≤ V5.heap.size := hb5.size
  have HW := Lib.hid hb.size
  clear hR hflat hb hb5 h55 hbody hmain h2 h4
  subst hV5
  obtain ⟨Q, hQ⟩ : ∃ Q, (bodyPost Try.prog Try.f8 (BoolBelow true W)) = Q := ⟨_, rfl⟩
  have HQ := Lib.hid hQ
  rw [hQ]
  clear hQ
  unfold knowsT5 Try.f8
  dsimp only
  go_wp2_with fail
  refine HR.out.mono ?_
  rintro e w2 ⟨v, A, c, rfl, rfl, hE, hb2, _⟩
  obtain ⟨A', c', heq, hi⟩ := hE
  simp only [Value.agg.injEq, Array.mk.injEq, List.cons.injEq, Value.slice.injEq, true_and, and_true] at heq
  obtain ⟨rfl, rfl⟩ := heq
  have HB2 := Lib.hid (HB.out.trans (hb2.mono HB.out.size))
  have HI := Lib.hid hi
  clear hb2 hi a0 a1 a2 b0 b1 b2 HR
  clear hs5
  have hb14 : Below w2.heap.size w2 ((w2.alloc (.cells #[.int .i64 1, .int .i64 0, .slice A 1 c, .int .i64 6] 35)).alloc (.cells #[.int .i64 12] 3)) := ((Below.refl _ _).alloc (Nat.le_refl _) _).alloc (by simp) _
  have h14 : ((w2.alloc (.cells #[.int .i64 1, .int .i64 0, .slice A 1 c, .int .i64 6] 35)).alloc (.cells #[.int .i64 12] 3)).cell? ⟨w2.heap.size + 1, 0, none⟩ = some (.int .i64 12) := by
    rw [World.cell?_alloc_at _ _ _ _ (by simp)]; rfl
  have h140 : ((w2.alloc (.cells #[.int .i64 1, .int .i64 0, .slice A 1 c, .int .i64 6] 35)).alloc (.cells #[.int .i64 12] 3)).heap[w2.heap.size]? = some (.cells #[.int .i64 1, .int .i64 0, .slice A 1 c, .int .i64 6] 35) :=
    (((Below.refl _ _).alloc (Nat.le_refl _) _ : Below (w2.alloc (.cells #[.int .i64 1, .int .i64 0, .slice A 1 c, .int .i64 6] 35)).heap.size _ _).block w2.heap.size (by simp)).trans (World.alloc_heap_new w2 _)
  have S1 := Lib.hid (sameInts_any (c := c) (c' := 1) _ ((HI.out.below hb14).mono hb14.size) (ints_one h14))
  have HB14 := Lib.hid (HB2.out.trans (hb14.mono HB2.out.size))
  go_wp2_with fail
  generalize (w2.alloc (.cells #[.int .i64 1, .int .i64 0, .slice A 1 c, .int .i64 6] 35)).alloc (.cells #[.int .i64 12] 3) = w14 at *
  refine S1.out.mono ?_
  rintro e w15 ⟨rfl, n1, rfl⟩
  have r0 : w14.cell? ⟨w2.heap.size, 3, none⟩ = some (.int .i64 6) := by simp [World.cell?, h140]
  clear hb14 h14
  go_wp2_with fail
  rw [← HQ.out]
  go_ret
  exact ⟨rfl, below_drewN HB14.out _⟩

set_option maxRecDepth 100000 in
set_option maxHeartbeats 8000000 in
theorem kn_tail3 {W V : World} (hb : Below W.heap.size W V) {X2 g5 : Nat} (h2 : V.heap[X2]? = some (.cells #[.slice (some ⟨g5, 0, none⟩) 2 2, .bool true, .int .i64 3] 27 (0, 0))) (hbody : BodyIn V.heap.size V kbody #[.slice (some ⟨g5, 0, none⟩) 2 2, .bool true, .int .i64 3]) (u0 u1 u3 u4 u5 u6 u7 u8 u9 u10 u11 u12 u13 u14 u15 u16 u17 u18 u19 u20 u21 u22 u23 u24 u25 u26 u27 u28 u29 u30 u31 u32 u33 u34 u35 u36 u37 u38 u39 u40 u41 u42 u43 u44 u45 u46 u47 u48 u49 u50 : Value) :
    knowsT3.wp Try.prog (bodyPost Try.prog Try.f8 (BoolBelow true W)) { tmps := #[u0, u1, .pointer (some ⟨X2, 0, none⟩), u3, u4, u5, u6, u7, u8, u9, u10, u11, u12, u13, u14, u15, u16, u17, u18, u19, u20, u21, u22, u23, u24, u25, u26, u27, u28, u29, u30, u31, u32, u33, u34, u35, u36, u37, u38, u39, u40, u41, u42, u43, u44, u45, u46, u47, u48, u49, u50], defers := [] } V := by
  have HINT := Lib.hid (mkint_any 7 V)
  have H2 := Lib.hid h2
  have HBODY := Lib.hid hbody
  have HB := Lib.hid hb
  clear h2 hbody hb
  obtain ⟨Q, hQ⟩ : ∃ Q, (bodyPost Try.prog Try.f8 (BoolBelow true W)) = Q := ⟨_, rfl⟩
  have HQ := Lib.hid hQ
  rw [hQ]
  clear hQ
  unfold knowsT3 Try.f8
  dsimp only
  go_wp2_with fail
  refine HINT.out.mono ?_
  rintro e w1 ⟨rfl, hb1⟩
  have HB1 := Lib.hid hb1
  clear hb1
  go_wp2_with fail
  have hQ2 := HQ.out
  subst hQ2
  obtain ⟨V3, hV3⟩ : ∃ V3, (w1.alloc (.cells #[.bool false, .int .i64 7] 25)).alloc (.cells #[.int .i64 0, .int .i64 9, .int .i64 0, .slice (some ⟨w1.heap.size, 0, none⟩) 1 1, .slice none 0 0, .slice none 0 0] 54) = V3 := ⟨_, rfl⟩
  rw [hV3]
  have hb3 : Below w1.heap.size w1 V3 := by rw [← hV3]; exact ((Below.refl _ _).alloc (Nat.le_refl _) _).alloc (by simp) _
  have hc3 : V3.heap[w1.heap.size]? = some (.cells #[.bool false, .int .i64 7] 25 (0, 0)) := by rw [← hV3]; exact heap1_ w1 _ _
  have hx3 : V3.heap[w1.heap.size + 1]? = some (.cells #[.int .i64 0, .int .i64 9, .int .i64 0, .slice (some ⟨w1.heap.size, 0, none⟩) 1 1, .slice none 0 0, .slice none 0 0] 54 (0, 0)) := by rw [← hV3]; exact heap2_ w1 _ _
  have hv3 : Below V.heap.size V V3 := HB1.out.trans (hb3.mono HB1.out.size)
  clear hV3
  refine kn_region4 (W := W) (V := V3) (X2 := X2) (X3 := w1.heap.size + 1) (bc := w1.heap.size) ?_ ?_ _ _ _ _ _ _ _ _ _ _ _ _ _ _ _ _ _ _ _ _ _ _ _ _ _ _ _ _ _ _ _ _ _ _ _ _ _ _ _ _ _ _ _ _ _ _ _ _ _ _ ‹∀ (a : Act) (w : World), Code.wp Try.prog _ _ a w → _›
  · intro V2 h
    have hx := (h.block _ (heap_lt hx3)).trans hx3
    exact ⟨by simp [World.cell?, hx], by simp [World.cell?, hx], by simp [World.cell?, hx], by simp [World.cell?, hx], by simp [World.cell?, hx], by simp [World.cell?, hx]⟩
  · intro V2 ga gs gb gp h ha hs hg hp y0 y1 y3 y5 y6 y7 y8 y9 y10 y11 y12 y13 y14 y15 y16 y17 y18 y19 y20 y21 y22 y23 y24 y25 y26 y27 y28 y29 y30 y31 y32 y33 y34 y35 y36 y37 y38 y39 y40 y41 y42 y43 y44 y45 y46 y47 y48 y49 y50
    have h0 := hv3.trans (h.mono hv3.size)
    exact kn_tail5 (HB.out.trans (h0.mono HB.out.size)) ((h0.block _ (heap_lt H2.out)).trans H2.out) hp (HBODY.out.later h0) (kmain_in ((h.block _ (heap_lt hc3)).trans hc3) ha hs hg) _ _ _ _ _ _ _ _ _ _ _ _ _ _ _ _ _ _ _ _ _ _ _ _ _ _ _ _ _ _ _ _ _ _ _ _ _ _ _ _ _ _ _ _ _ _ _ _ _

set_option maxRecDepth 100000 in
set_option maxHeartbeats 8000000 in
theorem knows_any (W : World) : Calls Try.prog 8 #[] W (BoolBelow true W) := by
  have HVAR := Lib.hid (mkvar_any 0 W)
  go_enter Try.func8, Try.ntmps8
  obtain ⟨Q, hQ⟩ : ∃ Q, (bodyPost Try.prog Try.f8 (BoolBelow true W)) = Q := ⟨_, rfl⟩
  have HQ := Lib.hid hQ
  rw [hQ]
  clear hQ
  go_wp2_with fail
  refine HVAR.out.mono ?_
  rintro e w1 ⟨rfl, hb1⟩
  have HB1 := Lib.hid hb1
  clear hb1
  go_wp2_with fail
  have hQ2 := HQ.out
  subst hQ2
  obtain ⟨V3, hV3⟩ : ∃ V3, (w1.alloc (.cells #[.bool true, .int .i64 0] 25)).alloc (.cells #[.int .i64 2, .int .i64 4, .int .i64 1, .slice (some ⟨w1.heap.size, 0, none⟩) 1 1, .slice none 0 0, .slice none 0 0] 54) = V3 := ⟨_, rfl⟩
  rw [hV3]
  have hb3 : Below w1.heap.size w1 V3 := by rw [← hV3]; exact ((Below.refl _ _).alloc (Nat.le_refl _) _).alloc (by simp) _
  have hc3 : V3.heap[w1.heap.size]? = some (.cells #[.bool true, .int .i64 0] 25 (0, 0)) := by rw [← hV3]; exact heap1_ w1 _ _
  have hx3 : V3.heap[w1.heap.size + 1]? = some (.cells #[.int .i64 2, .int .i64 4, .int .i64 1, .slice (some ⟨w1.heap.size, 0, none⟩) 1 1, .slice none 0 0, .slice none 0 0] 54 (0, 0)) := by rw [← hV3]; exact heap2_ w1 _ _
  have hv3 : Below W.heap.size W V3 := HB1.out.trans (hb3.mono HB1.out.size)
  clear hV3
  refine kn_region2 (W := W) (V := V3) (X1 := w1.heap.size + 1) (bf := w1.heap.size) ?_ ?_ _ _ _ _ _ _ _ _ _ _ _ _ _ _ _ _ _ _ _ _ _ _ _ _ _ _ _ _ _ _ _ _ _ _ _ _ _ _ _ _ _ _ _ _ _ _ _ _ _ _ _ ‹∀ (a : Act) (w : World), Code.wp Try.prog _ _ a w → _›
  · intro V2 h
    have hx := (h.block _ (heap_lt hx3)).trans hx3
    exact ⟨by simp [World.cell?, hx], by simp [World.cell?, hx], by simp [World.cell?, hx], by simp [World.cell?, hx], by simp [World.cell?, hx], by simp [World.cell?, hx]⟩
  · intro V2 g3 g5 g8 h h3 h5 h8 y0 y1 y3 y4 y5 y6 y7 y8 y9 y10 y11 y12 y13 y14 y15 y16 y17 y18 y19 y20 y21 y22 y23 y24 y25 y26 y27 y28 y29 y30 y31 y32 y33 y34 y35 y36 y37 y38 y39 y40 y41 y42 y43 y44 y45 y46 y47 y48 y49 y50
    exact kn_tail3 (hv3.trans (h.mono hv3.size)) h8 (kbody_in ((h.block _ (heap_lt hc3)).trans hc3) h3 h5) _ _ _ _ _ _ _ _ _ _ _ _ _ _ _ _ _ _ _ _ _ _ _ _ _ _ _ _ _ _ _ _ _ _ _ _ _ _ _ _ _ _ _ _ _ _ _ _ _ _
end Go.Proofs.Ytnobggabjpcbfaa
