/-
  What the claim's reading gives: an argument that reads as a term is a term in memory.
-/
import Derived.Test.YtnolhcdfknjncaaDoorRows
import Derived.Test.YtnolhcdfknjncaaDoorTie
import Derived.Test.YtnolhcdfknjncaaDoorCards
import Derived.Carry
import Derived.ProofKit
import Derived.OpenShut
import Derived.Deep.DeepHandedRow
import Derived.Lib.LaidTab
import Derived.ChangeArms
import Derived.Test.YtnolhcdfknjncaaDoorR4
set_option linter.unusedVariables false
set_option linter.unusedSimpArgs false
namespace Go.Proofs.YtnolhcdfknjncaaDoor
open Go.ChangeShapes Go.WideShapes Go.RowKit

/-! ### how much is read -/
theorem bulk_one {H : Type} (d : DataW H) : 1 ≤ Rows.uptoBulk d := by
  cases d with
  | lit l => cases l <;> simp [Rows.uptoBulk]
  | _ => simp [Rows.uptoBulk]
theorem bulk_len {H : Type} : ∀ l : List (DataW H), l.length ≤ Rows.uptoBulkAll l
  | [] => by simp
  | d :: l => by have := bulk_one d; have := bulk_len l; simp only [Rows.uptoBulkAll, List.length_cons]; omega
theorem bulk_mem {H : Type} {d : DataW H} : ∀ {l : List (DataW H)}, d ∈ l → Rows.uptoBulk d ≤ Rows.uptoBulkAll l
  | x :: l, h => by
    simp only [Rows.uptoBulkAll]
    rcases List.mem_cons.1 h with rfl | h
    · omega
    · have := bulk_mem h; omega

section
variable {H : Type} {enc : TypeId × Value → H} {W : World}

theorem cellsCore : Tryd.prog.cellsOf 26 = 4 := by kernel_rfl
theorem cellsInt : Tryd.prog.cellsOf 3 = 1 := by kernel_rfl
theorem cellsKind : Tryd.prog.cellsOf 22 = 1 := by kernel_rfl
theorem cellsInts : Tryd.prog.cellsOf 23 = 1 := by kernel_rfl
theorem cellsCores : Tryd.prog.cellsOf 24 = 1 := by kernel_rfl

/-- ints that are read lie in memory -/
theorem ints_of_trod {n : Nat} {c : Value} {x : DataW H × List MemPlace} (h : DataW.trod enc Tryd.prog W 0 (fun _ => true) true n 23 [c] = some x) (hb : Rows.uptoBulk x.1 ≤ 1048576) :
    ∃ (A : Option Addr) (cap : Nat) (ks : List Int), c = .slice A ks.length cap ∧ IntsIn W.heap.size W A ks ∧ ks.length ≤ cap ∧ ks.length ≤ 1048576 := by
  rcases open_ints Tryd.underlying23 Tryd.underlying3 cellsInt h with ⟨hc, rfl⟩ | ⟨a, len, cap, zs, hc, _, hlc, _, hzl, hx, hcell, hwf⟩
  · obtain rfl : c = .slice none 0 0 := by simpa using hc
    exact ⟨none, 0, [], rfl, ⟨by simp, .inl rfl⟩, by simp, by simp⟩
  · obtain rfl : c = .slice (some a) len cap := by simpa using hc
    simp only [if_true] at hzl
    have hlen : (zs.take len).length = len := by simp; omega
    have hbl : len ≤ 1048576 := by
      rw [hx] at hb
      have h1 := bulk_len (lits (H := H) .i64 (zs.take len))
      simp only [Rows.uptoBulk] at hb
      have h2 : (lits (H := H) .i64 (zs.take len)).length = len := by simp [lits]; omega
      omega
    refine ⟨some a, cap, zs.take len, by rw [hlen], ⟨by rw [hlen]; omega, ?_⟩, by rw [hlen]; exact hlc, by rw [hlen]; exact hbl⟩
    by_cases h0 : len = 0
    · left; simp [h0]
    · right
      have c0 := hcell 0 (by omega)
      obtain ⟨b, o, spot⟩ := a
      have hspot : spot = none := by simpa [Addr.add] using World.cell?_spot c0
      subst hspot
      have hadd : ∀ i, (⟨b, o, none⟩ : Addr).add i = ⟨b, o + i, none⟩ := fun i => by unfold Addr.add; split <;> simp_all
      rw [hadd] at c0
      refine ⟨b, o, rfl, World.block_lt_of_cell? _ _ c0, fun j hj => ?_⟩
      rw [hlen] at hj
      have := hcell j (by omega)
      rw [hadd] at this
      rw [this, nth_take _ hj]
      simp [nth, List.getD]


theorem hgtL_le {l : List Core} {N : Nat} (h : ∀ c ∈ l, c.hgt ≤ N) : hgtL l ≤ N := by
  induction l with
  | nil => simp [hgtL]
  | cons c l ih =>
    have h1 := h c (by simp)
    have h2 := ih (fun x hx => h x (by simp [hx]))
    simp only [hgtL]
    omega
set_option maxRecDepth 100000 in
theorem core_of_trod : ∀ (n : Nat) (cs : List Value) (x : DataW H × List MemPlace), DataW.trod enc Tryd.prog W 0 (fun _ => true) true n 26 cs = some x → Rows.uptoBulk x.1 ≤ 1048576 →
    ∃ t v0 v1 v2 v3, cs = [v0, v1, v2, v3] ∧ CoreIn W.heap.size W t #[v0, v1, v2, v3] ∧ t.hgt ≤ Rows.uptoBulk x.1 := by
  intro n
  induction n using Nat.strongRecOn with
  | _ n ih =>
    intro cs x h hb
    obtain ⟨xs, m, rfl, rfl, hl, hxl, hf⟩ := DataW.trod_struct Tryd.underlying26 h
    rw [cellsCore] at hl
    match cs, hl with
    | [a, b, c, e], _ =>
      have f0 := hf 0 _ rfl
      have f1 := hf 1 _ rfl
      have f2 := hf 2 _ rfl
      have f3 := hf 3 _ rfl
      match xs, hxl with
      | [x0, x1, x2, x3], _ =>
        change DataW.trod enc Tryd.prog W 0 (fun _ => true) true m 22 (([a, b, c, e].drop 0).take (Tryd.prog.cellsOf 22)) = some x0 at f0
        rw [cellsKind] at f0
        change DataW.trod enc Tryd.prog W 0 (fun _ => true) true m 3 (([a, b, c, e].drop 1).take (Tryd.prog.cellsOf 3)) = some x1 at f1
        rw [cellsInt] at f1
        change DataW.trod enc Tryd.prog W 0 (fun _ => true) true m 23 (([a, b, c, e].drop 2).take (Tryd.prog.cellsOf 23)) = some x2 at f2
        rw [cellsInts] at f2
        change DataW.trod enc Tryd.prog W 0 (fun _ => true) true m 24 (([a, b, c, e].drop 3).take (Tryd.prog.cellsOf 24)) = some x3 at f3
        rw [cellsCores] at f3
        simp only [List.drop_succ_cons, List.drop_zero, List.take_succ_cons, List.take_zero, List.getElem?_cons_zero, List.getElem?_cons_succ] at f0 f1 f2 f3
        obtain ⟨k, hk, _, _⟩ := DataW.trod_int Tryd.underlying22 f0
        obtain ⟨nn, hn, _, _⟩ := DataW.trod_int Tryd.underlying3 f1
        obtain rfl : a = .int .i64 k := by simpa using hk
        obtain rfl : b = .int .i64 nn := by simpa using hn
        simp only [List.map_cons, List.map_nil, Rows.uptoBulk, Rows.uptoBulkAll] at hb
        obtain ⟨A2, c2, ks, rfl, hks, hck, _⟩ := ints_of_trod f2 (by omega)
        rcases DataW.trod_slice Tryd.underlying24 f3 with ⟨he, hx3⟩ | ⟨ad, len, cap, elems, rest, q, rfl, he, hx3, _, hlc, _, hlen, hel, _⟩
        · obtain rfl : e = .slice none 0 0 := by simpa using he
          exact ⟨.mk k nn ks [], _, _, _, _, rfl, CoreIn.mk (b := 0) (o := 0) (G0 := fun _ => .nilIface) (G1 := fun _ => .nilIface) (G2 := fun _ => .nilIface) (G3 := fun _ => .nilIface) hks hck (Nat.le_refl _) (by simp) (by simp) (by simp) (by simp) (by simp) (by simp) (by intro i h; simp at h), by simp [Core.hgt, hgtL, Rows.uptoBulk]⟩
        · obtain rfl : e = .slice (some ad) len cap := by simpa using he
          rw [hx3] at hb
          simp only [Rows.uptoBulk] at hb
          have hbl : len ≤ 1048576 := by
            have := bulk_len (elems.map (·.1))
            simp [hlen] at this
            omega
          rw [cellsCore] at hel
          -- each element
          have each : ∀ i, i < len → ∃ t v0 v1 v2 v3, W.cell? (ad.add (i * 4)) = some v0 ∧ W.cell? ((ad.add (i * 4)).add 1) = some v1 ∧ W.cell? ((ad.add (i * 4)).add 2) = some v2 ∧ W.cell? ((ad.add (i * 4)).add 3) = some v3 ∧ CoreIn W.heap.size W t #[v0, v1, v2, v3] ∧ t.hgt ≤ Rows.uptoBulkAll (elems.map (·.1)) := by
            intro i hi
            have h1 := hel i hi
            rw [List.getElem?_eq_getElem (by omega), Option.bind_eq_some_iff] at h1
            obtain ⟨cs', hcs, hy⟩ := h1
            have hmem : Rows.uptoBulk (elems[i]'(by omega)).1 ≤ Rows.uptoBulkAll (elems.map (·.1)) := bulk_mem (List.mem_map.2 ⟨_, List.getElem_mem _, rfl⟩)
            obtain ⟨t, v0, v1, v2, v3, rfl, hin, hht⟩ := ih q (by omega) cs' _ hy (by omega)
            obtain ⟨_, _, hcell⟩ := World.cells?_some hcs
            have g0 := hcell 0 (by omega)
            have g1 := hcell 1 (by omega)
            have g2 := hcell 2 (by omega)
            have g3 := hcell 3 (by omega)
            have hz : (ad.add (i * 4)).add 0 = ad.add (i * 4) := by unfold Addr.add; split <;> simp_all
            rw [hz] at g0
            exact ⟨t, v0, v1, v2, v3, g0, g1, g2, g3, hin, by omega⟩
          by_cases h0 : len = 0
          · subst h0
            exact ⟨.mk k nn ks [], _, _, _, _, rfl, CoreIn.mk (b := 0) (o := 0) (G0 := fun _ => .nilIface) (G1 := fun _ => .nilIface) (G2 := fun _ => .nilIface) (G3 := fun _ => .nilIface) hks hck (Nat.zero_le _) (by simp) (by simp) (by simp) (by simp) (by simp) (by simp) (by intro i h; simp at h), by simp [Core.hgt, hgtL, Rows.uptoBulk]⟩
          · obtain ⟨bb, oo, spot⟩ := ad
            have hspot : spot = none := by
              obtain ⟨_, _, _, _, _, g0, _⟩ := each 0 (by omega)
              simpa [Addr.add] using World.cell?_spot g0
            subst hspot
            have hadd : ∀ o i, (⟨bb, o, none⟩ : Addr).add i = ⟨bb, o + i, none⟩ := fun o i => by unfold Addr.add; split <;> simp_all
            simp only [hadd] at each
            have hbb : bb < W.heap.size := by
              obtain ⟨_, _, _, _, _, g0, _⟩ := each 0 (by omega)
              exact World.block_lt_of_cell? _ _ g0
            -- choose
            have each' : ∀ i : Nat, ∃ p : Core × Value × Value × Value × Value, i < len → W.cell? ⟨bb, oo + i * 4, none⟩ = some p.2.1 ∧ W.cell? ⟨bb, oo + i * 4 + 1, none⟩ = some p.2.2.1 ∧ W.cell? ⟨bb, oo + i * 4 + 2, none⟩ = some p.2.2.2.1 ∧ W.cell? ⟨bb, oo + i * 4 + 3, none⟩ = some p.2.2.2.2 ∧ CoreIn W.heap.size W p.1 #[p.2.1, p.2.2.1, p.2.2.2.1, p.2.2.2.2] ∧ p.1.hgt ≤ Rows.uptoBulkAll (elems.map (·.1)) := fun i => by
              by_cases hi : i < len
              · obtain ⟨t, v0, v1, v2, v3, h⟩ := each i hi
                exact ⟨(t, v0, v1, v2, v3), fun _ => h⟩
              · exact ⟨default, fun h => absurd h hi⟩
            obtain ⟨P, hP⟩ := Classical.axiomOfChoice each'
            refine ⟨.mk k nn ks ((List.range len).map fun i => (P i).1), _, _, _, _, rfl, ?_, ?_⟩
            rotate_left
            · have hh : hgtL ((List.range len).map fun i => (P i).1) ≤ Rows.uptoBulkAll (elems.map (·.1)) := hgtL_le (fun c hc => by
                obtain ⟨i, hi, rfl⟩ := List.mem_map.1 hc
                exact (hP i (by simpa using hi)).2.2.2.2.2)
              simp only [Core.hgt]
              rw [hx3]
              simp only [List.map_cons, List.map_nil, Rows.uptoBulk, Rows.uptoBulkAll]
              omega
            have hcl : ((List.range len).map fun i => (P i).1).length = len := by simp
            have := CoreIn.mk (B := W.heap.size) (w := W) (k := k) (n := nn) (cs := (List.range len).map fun i => (P i).1) (Ac := some ⟨bb, oo, none⟩) (cc := cap) (b := bb) (o := oo) (G0 := fun i => (P i).2.1) (G1 := fun i => (P i).2.2.1) (G2 := fun i => (P i).2.2.2.1) (G3 := fun i => (P i).2.2.2.2) hks hck (by rw [hcl]; exact hlc) (by rw [hcl]; omega)
              (fun _ => ⟨rfl, hbb⟩) (fun i hi => (hP i (by rwa [hcl] at hi)).1) (fun i hi => (hP i (by rwa [hcl] at hi)).2.1) (fun i hi => (hP i (by rwa [hcl] at hi)).2.2.1) (fun i hi => (hP i (by rwa [hcl] at hi)).2.2.2.1)
              (fun i hi => by
                have hi' : i < len := by rwa [hcl] at hi
                have := (hP i hi').2.2.2.2.1
                simpa using this)
            rw [hcl] at this
            exact this
end
end Go.Proofs.YtnolhcdfknjncaaDoor
