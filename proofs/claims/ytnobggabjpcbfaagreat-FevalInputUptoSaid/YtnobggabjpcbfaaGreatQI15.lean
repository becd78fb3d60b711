/-
 3 texts of this seat in one: B0 B1 B3.
-/
import Derived.Test.YtnobggabjpcbfaaGreatRows
import Derived.Carry
import Derived.ProofKit
import Derived.OpenShut
import Derived.Deep.DeepHandedRow
import Derived.ChangeArms
import Derived.Test.YtnobggabjpcbfaaGreatQI14
set_option maxRecDepth 100000
set_option maxHeartbeats 16000000
set_option linter.unusedVariables false
set_option linter.unusedSimpArgs false
namespace Go.Proofs.YtnobggabjpcbfaaGreat
open Go.ChangeShapes Go.WideShapes Go.RowKit Go.Maps
/-! ### how much is read -/
theorem bulk_one {H : Type} (d : DataW H) : 1 ≤ Rows.uptoBulk d := by
 cases d with
 | lit l => cases l <;> simp [Rows.uptoBulk]
 | _ => simp [Rows.uptoBulk]
theorem bulk_len {H : Type} : ∀ l : List (DataW H), l.length ≤ Rows.uptoBulkAll l
 | [] => by simp
 | d :: l => by have := bulk_one d; have := bulk_len l; simp only [Rows.uptoBulkAll, List.length_cons]; omega
theorem bulk_mem {H : Type} {d : DataW H} : ∀ {l : List (DataW H)}, d ∈ l → Rows.uptoBulk d ≤ Rows.uptoBulkAll l
 | x :: l, h => by
  simp only [Rows.uptoBulkAll]
  rcases List.mem_cons.1 h with rfl | h
  · omega
  · have := bulk_mem h; omega
section
variable {H : Type} {enc : TypeId × Value → H} {W : World}
theorem cellsInt : Tryz.prog.cellsOf 3 = 1 := by kernel_rfl
theorem cellsBool : Tryz.prog.cellsOf 4 = 1 := by kernel_rfl
theorem cellsKind : Tryz.prog.cellsOf 55 = 1 := by kernel_rfl
theorem cellsInts : Tryz.prog.cellsOf 30 = 1 := by kernel_rfl
theorem cellsAtom : Tryz.prog.cellsOf 25 = 2 := by kernel_rfl
theorem cellsAtoms : Tryz.prog.cellsOf 57 = 1 := by kernel_rfl
theorem cellsBind : Tryz.prog.cellsOf 62 = 6 := by kernel_rfl
theorem cellsBinds : Tryz.prog.cellsOf 23 = 1 := by kernel_rfl
theorem cellsRhs : Tryz.prog.cellsOf 60 = 5 := by kernel_rfl
theorem cellsAnf : Tryz.prog.cellsOf 27 = 3 := by kernel_rfl
theorem cellsAnfs : Tryz.prog.cellsOf 58 = 1 := by kernel_rfl
theorem cellsFun : Tryz.prog.cellsOf 54 = 5 := by kernel_rfl
theorem cellsFuns : Tryz.prog.cellsOf 22 = 1 := by kernel_rfl
theorem cellsFlat : Tryz.prog.cellsOf 29 = 4 := by kernel_rfl
theorem ints_of_trod {n : Nat} {c : Value} {x : DataW H × List MemPlace} (h : DataW.trod enc Tryz.prog W 0 (fun _ => true) true n 30 [c] = some x) (hb : Rows.uptoBulk x.1 ≤ 1048576) :
 ∃ (A : Option Addr) (cap : Nat) (ks : List Int), c = .slice A ks.length cap ∧ IntsIn W.heap.size W A ks ∧ ks.length ≤ cap ∧ ks.length ≤ 1048576 := by
 rcases open_ints Tryz.underlying30 Tryz.underlying3 cellsInt h with ⟨hc, rfl⟩ | ⟨a, len, cap, zs, hc, _, hlc, _, hzl, hx, hcell, hwf⟩
 · obtain rfl : c = .slice none 0 0 := by simpa using hc
   exact ⟨none, 0, [], rfl, ⟨by simp, .inl rfl⟩, by simp, by simp⟩
 · obtain rfl : c = .slice (some a) len cap := by simpa using hc
   simp only [if_true] at hzl
   have hlen : (zs.take len).length = len := by simp; omega
   have hbl : len ≤ 1048576 := by
    rw [hx] at hb
    have h1 := bulk_len (lits (H := H) .i64 (zs.take len))
    simp only [Rows.uptoBulk] at hb
    have h2 : (lits (H := H) .i64 (zs.take len)).length = len := by simp [lits]; omega
    omega
   refine ⟨some a, cap, zs.take len, by rw [hlen], ⟨by rw [hlen]; omega, ?_⟩, by rw [hlen]; exact hlc, by rw [hlen]; exact hbl⟩
   by_cases h0 : len = 0
   · left; simp [h0]
   · right
     have c0 := hcell 0 (by omega)
     obtain ⟨b, o, spot⟩ := a
     have hspot : spot = none := by simpa [Addr.add] using World.cell?_spot c0
     subst hspot
     have hadd : ∀ i, (⟨b, o, none⟩ : Addr).add i = ⟨b, o + i, none⟩ := fun i => by unfold Addr.add; split <;> simp_all
     rw [hadd] at c0
     refine ⟨b, o, rfl, World.block_lt_of_cell? _ _ c0, fun j hj => ?_⟩
     rw [hlen] at hj
     have := hcell j (by omega)
     rw [hadd] at this
     rw [this, nth_take _ hj]
     simp [nth, List.getD]
theorem rows_of_trod {T e : TypeId} {c n : Nat} {v : Value} {x : DataW H × List MemPlace} {Q : List Value → Prop} (ht : Tryz.prog.underlying T = some (.slice e)) (hc : Tryz.prog.cellsOf e = c) (hc0 : 0 < c)
 (h : DataW.trod enc Tryz.prog W 0 (fun _ => true) true n T [v] = some x) (hb : Rows.uptoBulk x.1 ≤ 1048576)
 (hQ : ∀ (q : Nat) (cs : List Value) (y : DataW H × List MemPlace), q < n → DataW.trod enc Tryz.prog W 0 (fun _ => true) true q e cs = some y → Rows.uptoBulk y.1 ≤ 1048576 → Q cs) :
 ∃ (A : Option Addr) (len cap b o : Nat), v = .slice A len cap ∧ len ≤ cap ∧ len ≤ 1048576 ∧ (0 < len → A = some ⟨b, o, none⟩ ∧ b < W.heap.size) ∧
  ∀ i, i < len → ∃ cs : List Value, Q cs ∧ ∀ k, k < c → W.cell? ⟨b, o + i * c + k, none⟩ = cs[k]? := by
 rcases DataW.trod_slice ht h with ⟨he, hx3⟩ | ⟨ad, len, cap, elems, rest, q, hn, he, hx3, _, hlc, _, hlen, hel, _⟩
 · obtain rfl : v = .slice none 0 0 := by simpa using he
   exact ⟨none, 0, 0, 0, 0, rfl, Nat.le_refl _, by omega, by omega, by omega⟩
 · obtain rfl : v = .slice (some ad) len cap := by simpa using he
   rw [hx3] at hb
   simp only [Rows.uptoBulk] at hb
   have hbl : len ≤ 1048576 := by
    have := bulk_len (elems.map (·.1))
    simp [hlen] at this
    omega
   rw [hc] at hel
   have each : ∀ i, i < len → ∃ cs : List Value, Q cs ∧ ∀ k, k < c → W.cell? ((ad.add (i * c)).add k) = cs[k]? := by
    intro i hi
    have h1 := hel i hi
    rw [List.getElem?_eq_getElem (by omega), Option.bind_eq_some_iff] at h1
    obtain ⟨cs', hcs, hy⟩ := h1
    have hmem : Rows.uptoBulk (elems[i]'(by omega)).1 ≤ Rows.uptoBulkAll (elems.map (·.1)) := bulk_mem (List.mem_map.2 ⟨_, List.getElem_mem _, rfl⟩)
    obtain ⟨_, hcl, hcell⟩ := World.cells?_some hcs
    exact ⟨cs', hQ q cs' _ (by omega) hy (by omega), fun k hk => hcell k hk⟩
   by_cases h0 : len = 0
   · subst h0
     exact ⟨some ad, 0, cap, 0, 0, rfl, Nat.zero_le _, by omega, by omega, by omega⟩
   · obtain ⟨bb, oo, spot⟩ := ad
     have hsome : ∃ u, W.cell? (((⟨bb, oo, spot⟩ : Addr).add (0 * c)).add 0) = some u := by
      have h1 := hel 0 (by omega)
      rw [List.getElem?_eq_getElem (by omega), Option.bind_eq_some_iff] at h1
      obtain ⟨cs', hcs, hy⟩ := h1
      obtain ⟨hcl, _, hcell⟩ := World.cells?_some hcs
      have h2 := hcell 0 hc0
      rw [List.getElem?_eq_getElem (by omega)] at h2
      exact ⟨_, h2⟩
     obtain ⟨u, hu⟩ := hsome
     have hspot : spot = none := by simpa [Addr.add] using World.cell?_spot hu
     subst hspot
     have hadd : ∀ o i, (⟨bb, o, none⟩ : Addr).add i = ⟨bb, o + i, none⟩ := fun o i => by unfold Addr.add; split <;> simp_all
     simp only [hadd] at each hu
     exact ⟨_, len, cap, bb, oo, rfl, hlc, hbl, fun _ => ⟨rfl, World.block_lt_of_cell? _ _ hu⟩, each⟩
theorem atom_of_trod {n : Nat} {cs : List Value} {x : DataW H × List MemPlace} (h : DataW.trod enc Tryz.prog W 0 (fun _ => true) true n 25 cs = some x) : ∃ a : Atm, cs = [.bool a.v, .int .i64 a.n] ∧ In64 a.n := by
 obtain ⟨xs, m, rfl, rfl, hl, hxl, hf⟩ := DataW.trod_struct Tryz.underlying25 h
 rw [cellsAtom] at hl
 match cs, hl with
 | [a, b], _ =>
  have f0 := hf 0 _ rfl
  have f1 := hf 1 _ rfl
  match xs, hxl with
  | [x0, x1], _ =>
   change DataW.trod enc Tryz.prog W 0 (fun _ => true) true m 4 (([a, b].drop 0).take (Tryz.prog.cellsOf 4)) = some x0 at f0
   rw [cellsBool] at f0
   change DataW.trod enc Tryz.prog W 0 (fun _ => true) true m 3 (([a, b].drop 1).take (Tryz.prog.cellsOf 3)) = some x1 at f1
   rw [cellsInt] at f1
   simp only [List.drop_succ_cons, List.drop_zero, List.take_succ_cons, List.take_zero] at f0 f1
   obtain ⟨v, hv, _⟩ := DataW.trod_bool Tryz.underlying4 f0
   obtain ⟨k, hk, _, hw⟩ := DataW.trod_int Tryz.underlying3 f1
   obtain rfl : a = .bool v := by simpa using hv
   obtain rfl : b = .int .i64 k := by simpa using hk
   exact ⟨⟨v, k⟩, rfl, hw⟩
theorem atoms_of_trod {n : Nat} {v : Value} {x : DataW H × List MemPlace} (h : DataW.trod enc Tryz.prog W 0 (fun _ => true) true n 57 [v] = some x) (hb : Rows.uptoBulk x.1 ≤ 1048576) :
 ∃ (A : Option Addr) (cap : Nat) (ats : List Atm), v = .slice A ats.length cap ∧ AtomsIn W.heap.size W A ats ∧ ats.length ≤ cap ∧ ∀ a ∈ ats, In64 a.n := by
 obtain ⟨A, len, cap, b, o, rfl, hlc, hl, hA, hel⟩ := rows_of_trod (Q := fun cs => ∃ a : Atm, cs = [.bool a.v, .int .i64 a.n] ∧ In64 a.n) Tryz.underlying57 cellsAtom (by omega) h hb (fun q cs y _ hy _ => atom_of_trod hy)
 have each : ∀ i : Nat, ∃ a : Atm, i < len → W.cell? ⟨b, o + i * 2, none⟩ = some (.bool a.v) ∧ W.cell? ⟨b, o + i * 2 + 1, none⟩ = some (.int .i64 a.n) ∧ In64 a.n := fun i => by
  by_cases hi : i < len
  · obtain ⟨cs, ⟨a, rfl, ha⟩, hc⟩ := hel i hi
    exact ⟨a, fun _ => ⟨hc 0 (by omega), hc 1 (by omega), ha⟩⟩
  · exact ⟨default, fun h => absurd h hi⟩
 obtain ⟨P, hP⟩ := Classical.axiomOfChoice each
 have hlen : ((List.range len).map P).length = len := by simp
 refine ⟨A, cap, (List.range len).map P, by rw [hlen], ⟨by rw [hlen]; omega, ?_⟩, by rw [hlen]; exact hlc, fun a ha => ?_⟩
 · by_cases h0 : len = 0
   · left; simp [h0]
   · right
     obtain ⟨rfl, hbl⟩ := hA (by omega)
     refine ⟨b, o, rfl, hbl, fun j hj => ?_⟩
     rw [hlen] at hj
     have hg : ((List.range len).map P)[j]? = some (P j) := by simp [hj]
     rw [hg]
     exact ⟨(hP j hj).1, (hP j hj).2.1⟩
 · obtain ⟨i, hi, rfl⟩ := List.mem_map.1 ha
   exact (hP i (by simpa using hi)).2.2
end
end Go.Proofs.YtnobggabjpcbfaaGreat
namespace Go.Proofs.YtnobggabjpcbfaaGreat
open Go.ChangeShapes Go.WideShapes Go.RowKit Go.Maps
theorem rngL_of : ∀ {l : List Anf}, (∀ c ∈ l, rngA c) → rngL l
 | [], _ => by unfold rngL; trivial
 | c :: cs, h => by
  unfold rngL
  exact ⟨h c (by simp), rngL_of (fun d hd => h d (by simp [hd]))⟩
def BindQ (B : Nat) (w : World) (cs : List Value) : Prop :=
 ∃ (x k n : Int) (ats : List Atm) (ks : List Int) (bl : List Anf) (Aa Ak Al : Option Addr) (ca ck cl bb oo : Nat) (AB : Nat → Option Addr) (CB BB OO : Nat → Nat),
  cs = [.int .i64 x, .int .i64 k, .int .i64 n, .slice Aa ats.length ca, .slice Ak ks.length ck, .slice Al bl.length cl] ∧
  AtomsIn B w Aa ats ∧ ats.length ≤ ca ∧ IntsIn B w Ak ks ∧ ks.length ≤ ck ∧ bl.length ≤ cl ∧ bl.length * 40 ≤ 140737488351232 ∧ (0 < bl.length → Al = some ⟨bb, oo, none⟩ ∧ bb < B) ∧
  (∀ j (h : j < bl.length), w.cell? ⟨bb, oo + j * 3, none⟩ = some (.slice (AB j) bl[j].len (CB j))) ∧ (∀ j (h : j < bl.length), w.cell? ⟨bb, oo + j * 3 + 1, none⟩ = some (.bool bl[j].last.v)) ∧ (∀ j (h : j < bl.length), w.cell? ⟨bb, oo + j * 3 + 2, none⟩ = some (.int .i64 bl[j].last.n)) ∧
  (∀ j (h : j < bl.length), bl[j].len ≤ CB j ∧ bl[j].len * 96 ≤ 140737488351232 ∧ (0 < bl[j].len → AB j = some ⟨BB j, OO j, none⟩)) ∧ (∀ j (h : j < bl.length), AnfAt B w (BB j) (OO j) 0 bl[j]) ∧
  (∀ a ∈ ats, In64 a.n) ∧ rngL bl
theorem chain_of {B : Nat} {w : World} {b o len : Nat} (a : Atm) (ha : In64 a.n) (hbB : 0 < len → b < B) (hel : ∀ i, i < len → ∃ cs : List Value, BindQ B w cs ∧ ∀ k, k < 6 → w.cell? ⟨b, o + i * 6 + k, none⟩ = cs[k]?) :
 ∀ d i, i + d = len → ∃ t : Anf, AnfAt B w b o i t ∧ t.len = d ∧ t.last = a ∧ rngA t := by
 intro d
 induction d with
 | zero => intro i _; exact ⟨.ret a, .ret _ _ _ _, rfl, rfl, ha⟩
 | succ d ih =>
  intro i hi
  obtain ⟨t, h1, h2, h3, h4⟩ := ih (i + 1) (by omega)
  obtain ⟨cs, ⟨x, k, n, ats, ks, bl, Aa, Ak, Al, ca, ck, cl, bb, oo, AB, CB, BB, OO, rfl, q1, q2, q3, q4, q5, q6, q7, q8, q9, q10, q11, q12, q13, q14⟩, hc⟩ := hel i (by omega)
  refine ⟨.bind x k n ats ks bl t, .bind (hbB (by omega)) (hc 0 (by omega)) (hc 1 (by omega)) (hc 2 (by omega)) (hc 3 (by omega)) (hc 4 (by omega)) (hc 5 (by omega)) q1 q2 q3 q4 q5 q6 q7 q8 q9 q10 q11 q12 h1, by simp [Anf.len, h2], by simp [Anf.last, h3], ?_⟩
  unfold rngA
  exact ⟨q13, q14, h4⟩
section
variable {H : Type} {enc : TypeId × Value → H} {W : World}
def AnfQ (W : World) (cs : List Value) : Prop := ∃ (t : Anf) (v0 v1 v2 : Value), cs = [v0, v1, v2] ∧ BodyIn W.heap.size W t #[v0, v1, v2] ∧ rngA t
theorem rhs_of_trod {n : Nat} {cs : List Value} {x : DataW H × List MemPlace} (h : DataW.trod enc Tryz.prog W 0 (fun _ => true) true n 60 cs = some x) (hb : Rows.uptoBulk x.1 ≤ 1048576)
 (ih : ∀ (q : Nat) (cs : List Value) (y : DataW H × List MemPlace), q < n → DataW.trod enc Tryz.prog W 0 (fun _ => true) true q 27 cs = some y → Rows.uptoBulk y.1 ≤ 1048576 → AnfQ W cs) (k : Int) :
 BindQ W.heap.size W (.int .i64 k :: cs) := by
 obtain ⟨xs, m, rfl, rfl, hl, hxl, hf⟩ := DataW.trod_struct Tryz.underlying60 h
 rw [cellsRhs] at hl
 match cs, hl with
 | [a, b, c, d, e], _ =>
  have f0 := hf 0 _ rfl
  have f1 := hf 1 _ rfl
  have f2 := hf 2 _ rfl
  have f3 := hf 3 _ rfl
  have f4 := hf 4 _ rfl
  match xs, hxl with
  | [x0, x1, x2, x3, x4], _ =>
   change DataW.trod enc Tryz.prog W 0 (fun _ => true) true m 55 (([a, b, c, d, e].drop 0).take (Tryz.prog.cellsOf 55)) = some x0 at f0
   rw [cellsKind] at f0
   change DataW.trod enc Tryz.prog W 0 (fun _ => true) true m 3 (([a, b, c, d, e].drop 1).take (Tryz.prog.cellsOf 3)) = some x1 at f1
   rw [cellsInt] at f1
   change DataW.trod enc Tryz.prog W 0 (fun _ => true) true m 57 (([a, b, c, d, e].drop 2).take (Tryz.prog.cellsOf 57)) = some x2 at f2
   rw [cellsAtoms] at f2
   change DataW.trod enc Tryz.prog W 0 (fun _ => true) true m 30 (([a, b, c, d, e].drop 3).take (Tryz.prog.cellsOf 30)) = some x3 at f3
   rw [cellsInts] at f3
   change DataW.trod enc Tryz.prog W 0 (fun _ => true) true m 58 (([a, b, c, d, e].drop 4).take (Tryz.prog.cellsOf 58)) = some x4 at f4
   rw [cellsAnfs] at f4
   simp only [List.drop_succ_cons, List.drop_zero, List.take_succ_cons, List.take_zero] at f0 f1 f2 f3 f4
   simp only [List.map_cons, List.map_nil, Rows.uptoBulk, Rows.uptoBulkAll] at hb
   obtain ⟨kk, hk, _, _⟩ := DataW.trod_int Tryz.underlying55 f0
   obtain ⟨nn, hn, _, _⟩ := DataW.trod_int Tryz.underlying3 f1
   obtain rfl : a = .int .i64 kk := by simpa using hk
   obtain rfl : b = .int .i64 nn := by simpa using hn
   obtain ⟨Aa, ca, ats, rfl, q1, q2, q13⟩ := atoms_of_trod f2 (by omega)
   obtain ⟨Ak, ck, ks, rfl, q3, q4, _⟩ := ints_of_trod f3 (by omega)
   obtain ⟨Al, len, cl, bb, oo, rfl, hlc, hll, hA, hel⟩ := rows_of_trod (Q := AnfQ W) Tryz.underlying58 cellsAnf (by omega) f4 (by omega) (fun q cs y hq hy hby => ih q cs y (by omega) hy hby)
   have each : ∀ i : Nat, ∃ p : Anf × Option Addr × Nat × Nat × Nat, i < len → W.cell? ⟨bb, oo + i * 3, none⟩ = some (.slice p.2.1 p.1.len p.2.2.1) ∧ W.cell? ⟨bb, oo + i * 3 + 1, none⟩ = some (.bool p.1.last.v) ∧ W.cell? ⟨bb, oo + i * 3 + 2, none⟩ = some (.int .i64 p.1.last.n) ∧
    (p.1.len ≤ p.2.2.1 ∧ p.1.len * 96 ≤ 140737488351232 ∧ (0 < p.1.len → p.2.1 = some ⟨p.2.2.2.1, p.2.2.2.2, none⟩)) ∧ AnfAt W.heap.size W p.2.2.2.1 p.2.2.2.2 0 p.1 ∧ rngA p.1 := fun i => by
    by_cases hi : i < len
    · obtain ⟨cs, ⟨t, v0, v1, v2, rfl, ⟨A, c, b, o, hv, h2, h3, h4, h5⟩, hr⟩, hc⟩ := hel i hi
      simp only [Array.mk.injEq, List.cons.injEq, and_true] at hv
      obtain ⟨rfl, rfl, rfl⟩ := hv
      exact ⟨(t, A, c, b, o), fun _ => ⟨hc 0 (by omega), hc 1 (by omega), hc 2 (by omega), ⟨h2, h3, h4⟩, h5, hr⟩⟩
    · exact ⟨default, fun h => absurd h hi⟩
   obtain ⟨P, hP⟩ := Classical.axiomOfChoice each
   have hlen : ((List.range len).map fun i => (P i).1).length = len := by simp
   have hget : ∀ j (h : j < ((List.range len).map fun i => (P i).1).length), ((List.range len).map fun i => (P i).1)[j] = (P j).1 := fun j h => by simp
   refine ⟨k, kk, nn, ats, ks, (List.range len).map fun i => (P i).1, Aa, Ak, Al, ca, ck, cl, bb, oo, fun j => (P j).2.1, fun j => (P j).2.2.1, fun j => (P j).2.2.2.1, fun j => (P j).2.2.2.2, by rw [hlen], q1, q2, q3, q4, by rw [hlen]; exact hlc, by rw [hlen]; omega, by rw [hlen]; exact hA, ?_, ?_, ?_, ?_, ?_, q13, ?_⟩
   · intro j h; rw [hget j h]; exact (hP j (by rwa [hlen] at h)).1
   · intro j h; rw [hget j h]; exact (hP j (by rwa [hlen] at h)).2.1
   · intro j h; rw [hget j h]; exact (hP j (by rwa [hlen] at h)).2.2.1
   · intro j h; rw [hget j h]; exact (hP j (by rwa [hlen] at h)).2.2.2.1
   · intro j h; rw [hget j h]; exact (hP j (by rwa [hlen] at h)).2.2.2.2.1
   · refine rngL_of (fun c hc => ?_)
     obtain ⟨i, hi, rfl⟩ := List.mem_map.1 hc
     exact (hP i (by simpa using hi)).2.2.2.2.2
theorem bind_of_trod {n : Nat} {cs : List Value} {x : DataW H × List MemPlace} (h : DataW.trod enc Tryz.prog W 0 (fun _ => true) true n 62 cs = some x) (hb : Rows.uptoBulk x.1 ≤ 1048576)
 (ih : ∀ (q : Nat) (cs : List Value) (y : DataW H × List MemPlace), q < n → DataW.trod enc Tryz.prog W 0 (fun _ => true) true q 27 cs = some y → Rows.uptoBulk y.1 ≤ 1048576 → AnfQ W cs) :
 BindQ W.heap.size W cs := by
 obtain ⟨xs, m, rfl, rfl, hl, hxl, hf⟩ := DataW.trod_struct Tryz.underlying62 h
 rw [cellsBind] at hl
 match cs, hl with
 | [z, a, b, c, d, e], _ =>
  have f0 := hf 0 _ rfl
  have f1 := hf 1 _ rfl
  match xs, hxl with
  | [x0, x1], _ =>
   change DataW.trod enc Tryz.prog W 0 (fun _ => true) true m 3 (([z, a, b, c, d, e].drop 0).take (Tryz.prog.cellsOf 3)) = some x0 at f0
   rw [cellsInt] at f0
   change DataW.trod enc Tryz.prog W 0 (fun _ => true) true m 60 (([z, a, b, c, d, e].drop 1).take (Tryz.prog.cellsOf 60)) = some x1 at f1
   rw [cellsRhs] at f1
   simp only [List.drop_succ_cons, List.drop_zero, List.take_succ_cons, List.take_zero] at f0 f1
   simp only [List.map_cons, List.map_nil, Rows.uptoBulk, Rows.uptoBulkAll] at hb
   obtain ⟨k, hk, _, _⟩ := DataW.trod_int Tryz.underlying3 f0
   obtain rfl : z = .int .i64 k := by simpa using hk
   exact rhs_of_trod f1 (by omega) (fun q cs y hq => ih q cs y (by omega)) k
theorem anf_of_trod : ∀ (n : Nat) (cs : List Value) (x : DataW H × List MemPlace), DataW.trod enc Tryz.prog W 0 (fun _ => true) true n 27 cs = some x → Rows.uptoBulk x.1 ≤ 1048576 → AnfQ W cs := by
 intro n
 induction n using Nat.strongRecOn with
 | _ n ih =>
  intro cs x h hb
  obtain ⟨xs, m, rfl, rfl, hl, hxl, hf⟩ := DataW.trod_struct Tryz.underlying27 h
  rw [cellsAnf] at hl
  match cs, hl with
  | [a, b, c], _ =>
   have f0 := hf 0 _ rfl
   have f1 := hf 1 _ rfl
   match xs, hxl with
   | [x0, x1], _ =>
    change DataW.trod enc Tryz.prog W 0 (fun _ => true) true m 23 (([a, b, c].drop 0).take (Tryz.prog.cellsOf 23)) = some x0 at f0
    rw [cellsBinds] at f0
    change DataW.trod enc Tryz.prog W 0 (fun _ => true) true m 25 (([a, b, c].drop 1).take (Tryz.prog.cellsOf 25)) = some x1 at f1
    rw [cellsAtom] at f1
    simp only [List.drop_succ_cons, List.drop_zero, List.take_succ_cons, List.take_zero] at f0 f1
    simp only [List.map_cons, List.map_nil, Rows.uptoBulk, Rows.uptoBulkAll] at hb
    obtain ⟨at_, hat, hin⟩ := atom_of_trod f1
    obtain ⟨rfl, rfl⟩ : b = .bool at_.v ∧ c = .int .i64 at_.n := by simpa using hat
    obtain ⟨A, len, cap, bb, oo, rfl, hlc, hll, hA, hel⟩ := rows_of_trod (Q := BindQ W.heap.size W) Tryz.underlying23 cellsBind (by omega) f0 (by omega) (fun q cs y hq hy hby => bind_of_trod hy hby (fun q2 cs2 y2 hq2 => ih q2 (by omega) cs2 y2))
    obtain ⟨t, h1, h2, h3, h4⟩ := chain_of at_ hin (fun h => (hA h).2) hel len 0 (by omega)
    exact ⟨t, _, _, _, rfl, ⟨A, cap, bb, oo, by rw [h2, h3], by omega, by omega, fun h => (hA (by omega)).1, h1⟩, h4⟩
def FunQ (W : World) (cs : List Value) : Prop := ∃ (g : FFun) (v0 v1 v2 : Value), cs = [.int .i64 g.env, .int .i64 g.param, v0, v1, v2] ∧ BodyIn W.heap.size W g.body #[v0, v1, v2] ∧ rngA g.body
theorem fun_of_trod {n : Nat} {cs : List Value} {x : DataW H × List MemPlace} (h : DataW.trod enc Tryz.prog W 0 (fun _ => true) true n 54 cs = some x) (hb : Rows.uptoBulk x.1 ≤ 1048576) : FunQ W cs := by
 obtain ⟨xs, m, rfl, rfl, hl, hxl, hf⟩ := DataW.trod_struct Tryz.underlying54 h
 rw [cellsFun] at hl
 match cs, hl with
 | [a, b, c, d, e], _ =>
  have f0 := hf 0 _ rfl
  have f1 := hf 1 _ rfl
  have f2 := hf 2 _ rfl
  match xs, hxl with
  | [x0, x1, x2], _ =>
   change DataW.trod enc Tryz.prog W 0 (fun _ => true) true m 3 (([a, b, c, d, e].drop 0).take (Tryz.prog.cellsOf 3)) = some x0 at f0
   rw [cellsInt] at f0
   change DataW.trod enc Tryz.prog W 0 (fun _ => true) true m 3 (([a, b, c, d, e].drop 1).take (Tryz.prog.cellsOf 3)) = some x1 at f1
   rw [cellsInt] at f1
   change DataW.trod enc Tryz.prog W 0 (fun _ => true) true m 27 (([a, b, c, d, e].drop 2).take (Tryz.prog.cellsOf 27)) = some x2 at f2
   rw [cellsAnf] at f2
   simp only [List.drop_succ_cons, List.drop_zero, List.take_succ_cons, List.take_zero] at f0 f1 f2
   simp only [List.map_cons, List.map_nil, Rows.uptoBulk, Rows.uptoBulkAll] at hb
   obtain ⟨k0, hk0, _, _⟩ := DataW.trod_int Tryz.underlying3 f0
   obtain ⟨k1, hk1, _, _⟩ := DataW.trod_int Tryz.underlying3 f1
   obtain rfl : a = .int .i64 k0 := by simpa using hk0
   obtain rfl : b = .int .i64 k1 := by simpa using hk1
   obtain ⟨t, v0, v1, v2, hv, hin, hr⟩ := anf_of_trod m _ _ f2 (by omega)
   obtain ⟨rfl, rfl, rfl⟩ : c = v0 ∧ d = v1 ∧ e = v2 := by simpa using hv
   exact ⟨⟨k0, k1, t⟩, _, _, _, rfl, hin, hr⟩
theorem flat_of_trod {n : Nat} {cs : List Value} {x : DataW H × List MemPlace} (h : DataW.trod enc Tryz.prog W 0 (fun _ => true) true n 29 cs = some x) (hb : Rows.uptoBulk x.1 ≤ 1048576) :
 ∃ (p : FlatP) (v0 v1 v2 v3 : Value), cs = [v0, v1, v2, v3] ∧ FlatIn W.heap.size W p #[v0, v1, v2, v3] ∧ ((∀ g ∈ p.funs, rngA g.body) ∧ rngA p.main) ∧ p.funs.length ≤ 1048576 := by
 obtain ⟨xs, m, rfl, rfl, hl, hxl, hf⟩ := DataW.trod_struct Tryz.underlying29 h
 rw [cellsFlat] at hl
 match cs, hl with
 | [a, b, c, d], _ =>
  have f0 := hf 0 _ rfl
  have f1 := hf 1 _ rfl
  match xs, hxl with
  | [x0, x1], _ =>
   change DataW.trod enc Tryz.prog W 0 (fun _ => true) true m 22 (([a, b, c, d].drop 0).take (Tryz.prog.cellsOf 22)) = some x0 at f0
   rw [cellsFuns] at f0
   change DataW.trod enc Tryz.prog W 0 (fun _ => true) true m 27 (([a, b, c, d].drop 1).take (Tryz.prog.cellsOf 27)) = some x1 at f1
   rw [cellsAnf] at f1
   simp only [List.drop_succ_cons, List.drop_zero, List.take_succ_cons, List.take_zero] at f0 f1
   simp only [List.map_cons, List.map_nil, Rows.uptoBulk, Rows.uptoBulkAll] at hb
   obtain ⟨t, v0, v1, v2, hv, hin, hr⟩ := anf_of_trod m _ _ f1 (by omega)
   obtain ⟨rfl, rfl, rfl⟩ : b = v0 ∧ c = v1 ∧ d = v2 := by simpa using hv
   obtain ⟨A, len, cap, bb, oo, rfl, hlc, hll, hA, hel⟩ := rows_of_trod (Q := FunQ W) Tryz.underlying22 cellsFun (by omega) f0 (by omega) (fun q cs y hq hy hby => fun_of_trod hy hby)
   have each : ∀ i : Nat, ∃ p : FFun × Value × Value × Value, i < len → W.cell? ⟨bb, oo + i * 5, none⟩ = some (.int .i64 p.1.env) ∧ W.cell? ⟨bb, oo + i * 5 + 1, none⟩ = some (.int .i64 p.1.param) ∧ W.cell? ⟨bb, oo + i * 5 + 2, none⟩ = some p.2.1 ∧ W.cell? ⟨bb, oo + i * 5 + 3, none⟩ = some p.2.2.1 ∧ W.cell? ⟨bb, oo + i * 5 + 4, none⟩ = some p.2.2.2 ∧
    BodyIn W.heap.size W p.1.body #[p.2.1, p.2.2.1, p.2.2.2] ∧ rngA p.1.body := fun i => by
    by_cases hi : i < len
    · obtain ⟨cs, ⟨g, v0, v1, v2, rfl, hg, hr⟩, hc⟩ := hel i hi
      exact ⟨(g, v0, v1, v2), fun _ => ⟨hc 0 (by omega), hc 1 (by omega), hc 2 (by omega), hc 3 (by omega), hc 4 (by omega), hg, hr⟩⟩
    · exact ⟨(default, .nilIface, .nilIface, .nilIface), fun h => absurd h hi⟩
   obtain ⟨P, hP⟩ := Classical.axiomOfChoice each
   have hlen : ((List.range len).map fun i => (P i).1).length = len := by simp
   refine ⟨⟨(List.range len).map fun i => (P i).1, t⟩, _, _, _, _, rfl, ⟨A, cap, bb, oo, _, _, _, by rw [hlen], by rw [hlen]; exact hlc, by rw [hlen]; omega, hin, by rw [hlen]; exact hA, ?_⟩, ⟨?_, hr⟩, by rw [hlen]; exact hll⟩
   · intro j h
     rw [hlen] at h
     have hget : ((List.range len).map fun i => (P i).1)[j] = (P j).1 := by simp
     obtain ⟨q0, q1, q2, q3, q4, q5, _⟩ := hP j h
     exact ⟨_, _, _, by rw [hget]; exact q0, by rw [hget]; exact q1, q2, q3, q4, by rw [hget]; exact q5⟩
   · intro g hg
     obtain ⟨i, hi, rfl⟩ := List.mem_map.1 hg
     exact (hP i (by simpa using hi)).2.2.2.2.2.2
theorem open_flat2 {r : Reach} {b0 : Nat} {v : Value} {d : DataW H} {ps : List MemPlace} (hval : Value.okWide Tryz.prog W r b0 29 v) (hd : DataW.Trod enc Tryz.prog W 0 (fun _ => true) true 29 v d ps) (hb : Rows.uptoBulk d ≤ 1048576) :
 ∃ p cs, v = .agg cs ∧ FlatIn W.heap.size W p cs ∧ ((∀ g ∈ p.funs, rngA g.body) ∧ rngA p.main) ∧ p.funs.length ≤ 1048576 := by
 obtain ⟨cs, rfl, _⟩ := okWide_struct Tryz.underlying29 hval
 obtain ⟨fuel, hf⟩ := hd
 obtain ⟨p, v0, v1, v2, v3, hcs, hin, hh⟩ := flat_of_trod hf hb
 obtain rfl : cs = #[v0, v1, v2, v3] := by
  have : cs.toList = [v0, v1, v2, v3] := by simpa [Value.cells] using hcs
  cases cs; simp_all
 exact ⟨p, _, rfl, hin, hh⟩
theorem open_intsV {r : Reach} {b0 : Nat} {v : Value} {d : DataW H} {ps : List MemPlace} (hval : Value.okWide Tryz.prog W r b0 30 v) (hd : DataW.Trod enc Tryz.prog W 0 (fun _ => true) true 30 v d ps) (hb : Rows.uptoBulk d ≤ 1048576) :
 ∃ (A : Option Addr) (cap : Nat) (ks : List Int), v = .slice A ks.length cap ∧ IntsIn W.heap.size W A ks ∧ ks.length ≤ cap ∧ ks.length ≤ 1048576 := by
 obtain ⟨a, len, cap, rfl⟩ := okWide_slice Tryz.underlying30 hval
 obtain ⟨fuel, hf⟩ := hd
 exact ints_of_trod (c := .slice a len cap) (by simpa [Value.cells] using hf) hb
end
theorem bound {H : Type} {l : List (DataW H)} (hk : Rows.uptoSmall H l = true) : Rows.uptoBulkAll l ≤ 1048576 := by
 simpa [Rows.uptoSmall] using hk
theorem own : ownKnob Tryz.prog.godebug = none := by kernel_rfl
end Go.Proofs.YtnobggabjpcbfaaGreat
namespace Go.Proofs.YtnobggabjpcbfaaGreat
open Go.ChangeShapes Go.WideShapes Go.RowKit
theorem laidOut : laidOutB Tryz.prog = true := by kernel_rfl
theorem args_again {H : Type} {enc : TypeId × Value → H} {W W' : World} (hb : Below W.heap.size W W') : ∀ {ts : List TypeId} {vs : List Value} {ds : List (DataW H)} {ps : List MemPlace} (hts : ∀ t ∈ ts, Tryz.prog.readableRec t = true ∧ t < Tryz.prog.types.size) (h : DataW.TrodAll enc Tryz.prog W 0 (fun _ => true) true ts vs ds ps)
 (hlt : ∀ x ∈ ps, x.block < W.heap.size) (sp : Nat → Bool) (hsp : ∀ x ∈ ps, sp x.block = true), DataW.TrodAll enc Tryz.prog W' 0 sp true ts vs ds ps
 | [], [], [], _, _, h, _, _, _ => h
 | _ :: _, _ :: _, _ :: _, _, hts, ⟨p, q, h1, h2, e⟩, hlt, sp, hsp =>
  ⟨p, q, WideElems.Trod_stays laidOut (hts _ (List.mem_cons_self ..)).1 (hts _ (List.mem_cons_self ..)).2 h1 (fun x hx => hb.same (hlt x (by rw [e]; exact List.mem_append_left _ hx))) (fun x hx => hsp x (by rw [e]; exact List.mem_append_left _ hx)),
   args_again hb (fun t ht => hts t (List.mem_cons_of_mem _ ht)) h2 (fun x hx => hlt x (by rw [e]; exact List.mem_append_right _ hx)) sp (fun x hx => hsp x (by rw [e]; exact List.mem_append_right _ hx)), e⟩
theorem post_true {H : Type} {enc : TypeId × Value → H} {f : Func} {s : ChangeSpec} {W W' : World} {args : Array Value} {ds : List (DataW H)} {before : List MemPlace} (hts : ∀ t ∈ f.params.toList, Tryz.prog.readableRec t = true ∧ t < Tryz.prog.types.size) (hv : s.vars = [])
 (hW : DataW.Whole enc Tryz.prog f.params.toList s.vars false W args.toList ds [] before) (hs : s.fn H (ds ++ []) = { results := [.lit (.bool true)], args := ds }) (hr : f.resultTypes = #[4]) (hb : Below W.heap.size W W') :
 s.post enc Tryz.prog f false true false false W args (.bool true) W' := by
 have hlt : ∀ x ∈ before, x.block < W.heap.size := fun x hx => by simpa using hW.lt x hx
 have hW' := hW
 obtain ⟨p, q, hA, hV, he, hz, hn⟩ := hW'
 rw [hv] at hV
 obtain ⟨_, rfl⟩ := trodVars_none hV
 have hpb : p = before := by rw [he]; simp
 subst hpb
 have hargs : ∀ sp : Nat → Bool, (∀ x ∈ p, sp x.block = true) → DataW.TrodAll enc Tryz.prog W' 0 sp true f.params.toList args.toList ds p := fun sp hsp => args_again hb hts hA hlt sp hsp
 have hres : ∀ (b : Nat) (sp : Nat → Bool) (hd : Bool), DataW.TrodAll enc Tryz.prog W' b sp hd f.resultTypes.toList ((Value.bool true).resultList f.resultTypes.size) [.lit (.bool true)] [] := fun b sp hd => by
  rw [hr]
  exact trodAll_cons_mk (shut_bool Tryz.underlying4 true) trodAll_mk0
 have hvars : ∀ sp : Nat → Bool, DataW.TrodVars enc Tryz.prog W' sp s.vars [] [] := fun sp => by rw [hv]; rfl
 refine ⟨ds, [], p, [], p, [], hW, ?_, ?_, ?_, World.keptBut_mono (fun x hx => ⟨hx, Or.inr (Or.inl hx)⟩) (hb.frame (· ∈ p)), fun _ => ?_⟩
 · rw [hs]; exact hres _ _ _
 · rw [hs]; exact hargs _ (fun x hx => by simpa using hlt x hx)
 · rw [hs]; exact hvars _
 · refine ⟨ok_one (v := .bool true) hr (by simp [Value.resultList]) (okWide_bool_mk (P := Tryz.prog) (W' := W') (t := 4) Tryz.underlying4 true), [.lit (.bool true)] ++ ds, [], ([] ++ p) ++ [], ⟨[] ++ p, [], ?_, hvars _, rfl, ?_, by intro h; cases h⟩, ?_⟩
   · exact trodAll_append (hargs (fun _ => true) (fun _ _ => rfl)) (hres _ _ _)
   · intro b off hp
     have hp' : MemPlace.cell b off ∈ p := by simpa using hp
     rw [hb.frozen (hlt _ hp')]
     exact hz b off (by simpa using hp')
   · intro x hx _
     simpa using hx
end Go.Proofs.YtnobggabjpcbfaaGreat
