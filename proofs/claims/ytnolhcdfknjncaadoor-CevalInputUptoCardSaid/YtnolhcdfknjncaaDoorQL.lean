/-
  6 texts of this seat in one: L1 L2 L3 L4 L5 C0.
-/
import Derived.Test.YtnolhcdfknjncaaDoorRows
import Derived.Test.YtnolhcdfknjncaaDoorTie
import Derived.Test.YtnolhcdfknjncaaDoorCards
import Derived.Carry
import Derived.ProofKit
import Derived.OpenShut
import Derived.Deep.DeepHandedRow
import Derived.Lib.LaidTab
import Derived.ChangeArms
import Derived.Test.YtnolhcdfknjncaaDoorQA
import Derived.Test.YtnolhcdfknjncaaDoorQU
/-
  What the claim's reading gives: an argument that reads as a term is a term in memory.
-/
set_option linter.unusedVariables false
set_option linter.unusedSimpArgs false
namespace Go.Proofs.YtnolhcdfknjncaaDoor
open Go.ChangeShapes Go.WideShapes Go.RowKit

/-! ### how much is read -/
theorem bulk_one {H : Type} (d : DataW H) : 1 ≤ Rows.uptoBulk d := by
  cases d with
  | lit l => cases l <;> simp [Rows.uptoBulk]
  | _ => simp [Rows.uptoBulk]
theorem bulk_len {H : Type} : ∀ l : List (DataW H), l.length ≤ Rows.uptoBulkAll l
  | [] => by simp
  | d :: l => by have := bulk_one d; have := bulk_len l; simp only [Rows.uptoBulkAll, List.length_cons]; omega
theorem bulk_mem {H : Type} {d : DataW H} : ∀ {l : List (DataW H)}, d ∈ l → Rows.uptoBulk d ≤ Rows.uptoBulkAll l
  | x :: l, h => by
    simp only [Rows.uptoBulkAll]
    rcases List.mem_cons.1 h with rfl | h
    · omega
    · have := bulk_mem h; omega

section
variable {H : Type} {enc : TypeId × Value → H} {W : World}

theorem cellsCore : Tryd.prog.cellsOf 26 = 4 := by kernel_rfl
theorem cellsInt : Tryd.prog.cellsOf 3 = 1 := by kernel_rfl
theorem cellsKind : Tryd.prog.cellsOf 22 = 1 := by kernel_rfl
theorem cellsInts : Tryd.prog.cellsOf 23 = 1 := by kernel_rfl
theorem cellsCores : Tryd.prog.cellsOf 24 = 1 := by kernel_rfl

/-- ints that are read lie in memory -/
theorem ints_of_trod {n : Nat} {c : Value} {x : DataW H × List MemPlace} (h : DataW.trod enc Tryd.prog W 0 (fun _ => true) true n 23 [c] = some x) (hb : Rows.uptoBulk x.1 ≤ 1048576) :
    ∃ (A : Option Addr) (cap : Nat) (ks : List Int), c = .slice A ks.length cap ∧ IntsIn W.heap.size W A ks ∧ ks.length ≤ cap ∧ ks.length ≤ 1048576 := by
  rcases open_ints Tryd.underlying23 Tryd.underlying3 cellsInt h with ⟨hc, rfl⟩ | ⟨a, len, cap, zs, hc, _, hlc, _, hzl, hx, hcell, hwf⟩
  · obtain rfl : c = .slice none 0 0 := by simpa using hc
    exact ⟨none, 0, [], rfl, ⟨by simp, .inl rfl⟩, by simp, by simp⟩
  · obtain rfl : c = .slice (some a) len cap := by simpa using hc
    simp only [if_true] at hzl
    have hlen : (zs.take len).length = len := by simp; omega
    have hbl : len ≤ 1048576 := by
      rw [hx] at hb
      have h1 := bulk_len (lits (H := H) .i64 (zs.take len))
      simp only [Rows.uptoBulk] at hb
      have h2 : (lits (H := H) .i64 (zs.take len)).length = len := by simp [lits]; omega
      omega
    refine ⟨some a, cap, zs.take len, by rw [hlen], ⟨by rw [hlen]; omega, ?_⟩, by rw [hlen]; exact hlc, by rw [hlen]; exact hbl⟩
    by_cases h0 : len = 0
    · left; simp [h0]
    · right
      have c0 := hcell 0 (by omega)
      obtain ⟨b, o, spot⟩ := a
      have hspot : spot = none := by simpa [Addr.add] using World.cell?_spot c0
      subst hspot
      have hadd : ∀ i, (⟨b, o, none⟩ : Addr).add i = ⟨b, o + i, none⟩ := fun i => by unfold Addr.add; split <;> simp_all
      rw [hadd] at c0
      refine ⟨b, o, rfl, World.block_lt_of_cell? _ _ c0, fun j hj => ?_⟩
      rw [hlen] at hj
      have := hcell j (by omega)
      rw [hadd] at this
      rw [this, nth_take _ hj]
      simp [nth, List.getD]


theorem hgtL_le {l : List Core} {N : Nat} (h : ∀ c ∈ l, c.hgt ≤ N) : hgtL l ≤ N := by
  induction l with
  | nil => simp [hgtL]
  | cons c l ih =>
    have h1 := h c (by simp)
    have h2 := ih (fun x hx => h x (by simp [hx]))
    simp only [hgtL]
    omega
set_option maxRecDepth 100000 in
theorem core_of_trod : ∀ (n : Nat) (cs : List Value) (x : DataW H × List MemPlace), DataW.trod enc Tryd.prog W 0 (fun _ => true) true n 26 cs = some x → Rows.uptoBulk x.1 ≤ 1048576 →
    ∃ t v0 v1 v2 v3, cs = [v0, v1, v2, v3] ∧ CoreIn W.heap.size W t #[v0, v1, v2, v3] ∧ t.hgt ≤ Rows.uptoBulk x.1 := by
  intro n
  induction n using Nat.strongRecOn with
  | _ n ih =>
    intro cs x h hb
    obtain ⟨xs, m, rfl, rfl, hl, hxl, hf⟩ := DataW.trod_struct Tryd.underlying26 h
    rw [cellsCore] at hl
    match cs, hl with
    | [a, b, c, e], _ =>
      have f0 := hf 0 _ rfl
      have f1 := hf 1 _ rfl
      have f2 := hf 2 _ rfl
      have f3 := hf 3 _ rfl
      match xs, hxl with
      | [x0, x1, x2, x3], _ =>
        change DataW.trod enc Tryd.prog W 0 (fun _ => true) true m 22 (([a, b, c, e].drop 0).take (Tryd.prog.cellsOf 22)) = some x0 at f0
        rw [cellsKind] at f0
        change DataW.trod enc Tryd.prog W 0 (fun _ => true) true m 3 (([a, b, c, e].drop 1).take (Tryd.prog.cellsOf 3)) = some x1 at f1
        rw [cellsInt] at f1
        change DataW.trod enc Tryd.prog W 0 (fun _ => true) true m 23 (([a, b, c, e].drop 2).take (Tryd.prog.cellsOf 23)) = some x2 at f2
        rw [cellsInts] at f2
        change DataW.trod enc Tryd.prog W 0 (fun _ => true) true m 24 (([a, b, c, e].drop 3).take (Tryd.prog.cellsOf 24)) = some x3 at f3
        rw [cellsCores] at f3
        simp only [List.drop_succ_cons, List.drop_zero, List.take_succ_cons, List.take_zero, List.getElem?_cons_zero, List.getElem?_cons_succ] at f0 f1 f2 f3
        obtain ⟨k, hk, _, _⟩ := DataW.trod_int Tryd.underlying22 f0
        obtain ⟨nn, hn, _, _⟩ := DataW.trod_int Tryd.underlying3 f1
        obtain rfl : a = .int .i64 k := by simpa using hk
        obtain rfl : b = .int .i64 nn := by simpa using hn
        simp only [List.map_cons, List.map_nil, Rows.uptoBulk, Rows.uptoBulkAll] at hb
        obtain ⟨A2, c2, ks, rfl, hks, hck, _⟩ := ints_of_trod f2 (by omega)
        rcases DataW.trod_slice Tryd.underlying24 f3 with ⟨he, hx3⟩ | ⟨ad, len, cap, elems, rest, q, rfl, he, hx3, _, hlc, _, hlen, hel, _⟩
        · obtain rfl : e = .slice none 0 0 := by simpa using he
          exact ⟨.mk k nn ks [], _, _, _, _, rfl, CoreIn.mk (b := 0) (o := 0) (G0 := fun _ => .nilIface) (G1 := fun _ => .nilIface) (G2 := fun _ => .nilIface) (G3 := fun _ => .nilIface) hks hck (Nat.le_refl _) (by simp) (by simp) (by simp) (by simp) (by simp) (by simp) (by intro i h; simp at h), by simp [Core.hgt, hgtL, Rows.uptoBulk]⟩
        · obtain rfl : e = .slice (some ad) len cap := by simpa using he
          rw [hx3] at hb
          simp only [Rows.uptoBulk] at hb
          have hbl : len ≤ 1048576 := by
            have := bulk_len (elems.map (·.1))
            simp [hlen] at this
            omega
          rw [cellsCore] at hel
          -- each element
          have each : ∀ i, i < len → ∃ t v0 v1 v2 v3, W.cell? (ad.add (i * 4)) = some v0 ∧ W.cell? ((ad.add (i * 4)).add 1) = some v1 ∧ W.cell? ((ad.add (i * 4)).add 2) = some v2 ∧ W.cell? ((ad.add (i * 4)).add 3) = some v3 ∧ CoreIn W.heap.size W t #[v0, v1, v2, v3] ∧ t.hgt ≤ Rows.uptoBulkAll (elems.map (·.1)) := by
            intro i hi
            have h1 := hel i hi
            rw [List.getElem?_eq_getElem (by omega), Option.bind_eq_some_iff] at h1
            obtain ⟨cs', hcs, hy⟩ := h1
            have hmem : Rows.uptoBulk (elems[i]'(by omega)).1 ≤ Rows.uptoBulkAll (elems.map (·.1)) := bulk_mem (List.mem_map.2 ⟨_, List.getElem_mem _, rfl⟩)
            obtain ⟨t, v0, v1, v2, v3, rfl, hin, hht⟩ := ih q (by omega) cs' _ hy (by omega)
            obtain ⟨_, _, hcell⟩ := World.cells?_some hcs
            have g0 := hcell 0 (by omega)
            have g1 := hcell 1 (by omega)
            have g2 := hcell 2 (by omega)
            have g3 := hcell 3 (by omega)
            have hz : (ad.add (i * 4)).add 0 = ad.add (i * 4) := by unfold Addr.add; split <;> simp_all
            rw [hz] at g0
            exact ⟨t, v0, v1, v2, v3, g0, g1, g2, g3, hin, by omega⟩
          by_cases h0 : len = 0
          · subst h0
            exact ⟨.mk k nn ks [], _, _, _, _, rfl, CoreIn.mk (b := 0) (o := 0) (G0 := fun _ => .nilIface) (G1 := fun _ => .nilIface) (G2 := fun _ => .nilIface) (G3 := fun _ => .nilIface) hks hck (Nat.zero_le _) (by simp) (by simp) (by simp) (by simp) (by simp) (by simp) (by intro i h; simp at h), by simp [Core.hgt, hgtL, Rows.uptoBulk]⟩
          · obtain ⟨bb, oo, spot⟩ := ad
            have hspot : spot = none := by
              obtain ⟨_, _, _, _, _, g0, _⟩ := each 0 (by omega)
              simpa [Addr.add] using World.cell?_spot g0
            subst hspot
            have hadd : ∀ o i, (⟨bb, o, none⟩ : Addr).add i = ⟨bb, o + i, none⟩ := fun o i => by unfold Addr.add; split <;> simp_all
            simp only [hadd] at each
            have hbb : bb < W.heap.size := by
              obtain ⟨_, _, _, _, _, g0, _⟩ := each 0 (by omega)
              exact World.block_lt_of_cell? _ _ g0
            -- choose
            have each' : ∀ i : Nat, ∃ p : Core × Value × Value × Value × Value, i < len → W.cell? ⟨bb, oo + i * 4, none⟩ = some p.2.1 ∧ W.cell? ⟨bb, oo + i * 4 + 1, none⟩ = some p.2.2.1 ∧ W.cell? ⟨bb, oo + i * 4 + 2, none⟩ = some p.2.2.2.1 ∧ W.cell? ⟨bb, oo + i * 4 + 3, none⟩ = some p.2.2.2.2 ∧ CoreIn W.heap.size W p.1 #[p.2.1, p.2.2.1, p.2.2.2.1, p.2.2.2.2] ∧ p.1.hgt ≤ Rows.uptoBulkAll (elems.map (·.1)) := fun i => by
              by_cases hi : i < len
              · obtain ⟨t, v0, v1, v2, v3, h⟩ := each i hi
                exact ⟨(t, v0, v1, v2, v3), fun _ => h⟩
              · exact ⟨default, fun h => absurd h hi⟩
            obtain ⟨P, hP⟩ := Classical.axiomOfChoice each'
            refine ⟨.mk k nn ks ((List.range len).map fun i => (P i).1), _, _, _, _, rfl, ?_, ?_⟩
            rotate_left
            · have hh : hgtL ((List.range len).map fun i => (P i).1) ≤ Rows.uptoBulkAll (elems.map (·.1)) := hgtL_le (fun c hc => by
                obtain ⟨i, hi, rfl⟩ := List.mem_map.1 hc
                exact (hP i (by simpa using hi)).2.2.2.2.2)
              simp only [Core.hgt]
              rw [hx3]
              simp only [List.map_cons, List.map_nil, Rows.uptoBulk, Rows.uptoBulkAll]
              omega
            have hcl : ((List.range len).map fun i => (P i).1).length = len := by simp
            have := CoreIn.mk (B := W.heap.size) (w := W) (k := k) (n := nn) (cs := (List.range len).map fun i => (P i).1) (Ac := some ⟨bb, oo, none⟩) (cc := cap) (b := bb) (o := oo) (G0 := fun i => (P i).2.1) (G1 := fun i => (P i).2.2.1) (G2 := fun i => (P i).2.2.2.1) (G3 := fun i => (P i).2.2.2.2) hks hck (by rw [hcl]; exact hlc) (by rw [hcl]; omega)
              (fun _ => ⟨rfl, hbb⟩) (fun i hi => (hP i (by rwa [hcl] at hi)).1) (fun i hi => (hP i (by rwa [hcl] at hi)).2.1) (fun i hi => (hP i (by rwa [hcl] at hi)).2.2.1) (fun i hi => (hP i (by rwa [hcl] at hi)).2.2.2.1)
              (fun i hi => by
                have hi' : i < len := by rwa [hcl] at hi
                have := (hP i hi').2.2.2.2.1
                simpa using this)
            rw [hcl] at this
            exact this
end
end Go.Proofs.YtnolhcdfknjncaaDoor

/-
  What the claim asks behind the call: true, and the arguments read as they did.
-/
set_option linter.unusedVariables false
set_option linter.unusedSimpArgs false
namespace Go.Proofs.YtnolhcdfknjncaaDoor
open Go.ChangeShapes Go.WideShapes Go.RowKit

theorem laidOut : laidOutB Tryd.prog = true := by kernel_rfl

/-- arguments read behind the call as they did -/
theorem args_again {H : Type} {enc : TypeId × Value → H} {W W' : World} (hb : Below W.heap.size W W') : ∀ {ts : List TypeId} {vs : List Value} {ds : List (DataW H)} {ps : List MemPlace} (hts : ∀ t ∈ ts, Tryd.prog.readableRec t = true ∧ t < Tryd.prog.types.size) (h : DataW.TrodAll enc Tryd.prog W 0 (fun _ => true) true ts vs ds ps)
    (hlt : ∀ x ∈ ps, x.block < W.heap.size) (sp : Nat → Bool) (hsp : ∀ x ∈ ps, sp x.block = true), DataW.TrodAll enc Tryd.prog W' 0 sp true ts vs ds ps
  | [], [], [], _, _, h, _, _, _ => h
  | _ :: _, _ :: _, _ :: _, _, hts, ⟨p, q, h1, h2, e⟩, hlt, sp, hsp =>
    ⟨p, q, WideElems.Trod_stays laidOut (hts _ (List.mem_cons_self ..)).1 (hts _ (List.mem_cons_self ..)).2 h1 (fun x hx => hb.same (hlt x (by rw [e]; exact List.mem_append_left _ hx))) (fun x hx => hsp x (by rw [e]; exact List.mem_append_left _ hx)),
      args_again hb (fun t ht => hts t (List.mem_cons_of_mem _ ht)) h2 (fun x hx => hlt x (by rw [e]; exact List.mem_append_right _ hx)) sp (fun x hx => hsp x (by rw [e]; exact List.mem_append_right _ hx)), e⟩

set_option maxRecDepth 100000 in
theorem post_true {H : Type} {enc : TypeId × Value → H} {f : Func} {s : ChangeSpec} {W W' : World} {args : Array Value} {ds : List (DataW H)} {before : List MemPlace} (hts : ∀ t ∈ f.params.toList, Tryd.prog.readableRec t = true ∧ t < Tryd.prog.types.size) (hv : s.vars = [])
    (hW : DataW.Whole enc Tryd.prog f.params.toList s.vars false W args.toList ds [] before) (hs : s.fn H (ds ++ []) = { results := [.lit (.bool true)], args := ds }) (hr : f.resultTypes = #[4]) (hb : Below W.heap.size W W') :
    s.post enc Tryd.prog f false true false false W args (.bool true) W' := by
  have hlt : ∀ x ∈ before, x.block < W.heap.size := fun x hx => by simpa using hW.lt x hx
  have hW' := hW
  obtain ⟨p, q, hA, hV, he, hz, hn⟩ := hW'
  rw [hv] at hV
  obtain ⟨_, rfl⟩ := trodVars_none hV
  have hpb : p = before := by rw [he]; simp
  subst hpb
  have hargs : ∀ sp : Nat → Bool, (∀ x ∈ p, sp x.block = true) → DataW.TrodAll enc Tryd.prog W' 0 sp true f.params.toList args.toList ds p := fun sp hsp => args_again hb hts hA hlt sp hsp
  have hres : ∀ (b : Nat) (sp : Nat → Bool) (hd : Bool), DataW.TrodAll enc Tryd.prog W' b sp hd f.resultTypes.toList ((Value.bool true).resultList f.resultTypes.size) [.lit (.bool true)] [] := fun b sp hd => by
    rw [hr]
    exact trodAll_cons_mk (shut_bool Tryd.underlying4 true) trodAll_mk0
  have hvars : ∀ sp : Nat → Bool, DataW.TrodVars enc Tryd.prog W' sp s.vars [] [] := fun sp => by rw [hv]; rfl
  refine ⟨ds, [], p, [], p, [], hW, ?_, ?_, ?_, World.keptBut_mono (fun x hx => ⟨hx, Or.inr (Or.inl hx)⟩) (hb.frame (· ∈ p)), fun _ => ?_⟩
  · rw [hs]; exact hres _ _ _
  · rw [hs]; exact hargs _ (fun x hx => by simpa using hlt x hx)
  · rw [hs]; exact hvars _
  · refine ⟨ok_one (v := .bool true) hr (by simp [Value.resultList]) (okWide_bool_mk (P := Tryd.prog) (W' := W') (t := 4) Tryd.underlying4 true), [.lit (.bool true)] ++ ds, [], ([] ++ p) ++ [], ⟨[] ++ p, [], ?_, hvars _, rfl, ?_, by intro h; cases h⟩, ?_⟩
    · exact trodAll_append (hargs (fun _ => true) (fun _ _ => rfl)) (hres _ _ _)
    · intro b off hp
      have hp' : MemPlace.cell b off ∈ p := by simpa using hp
      rw [hb.frozen (hlt _ hp')]
      exact hz b off (by simpa using hp')
    · intro x hx _
      simpa using hx
end Go.Proofs.YtnolhcdfknjncaaDoor

/-
  The law's small functions: lists of ints compared; how many nodes a term has.
-/
set_option linter.unusedVariables false
set_option linter.unusedSimpArgs false
namespace Go.Proofs.YtnolhcdfknjncaaDoor
open Go.RowKit

def BoolPost (b : Bool) (w : World) (e : Ending) (w' : World) : Prop := e = .returned (.bool b) ∧ ∃ n, w' = w.drewN n
theorem drewN_0 (w : World) : w = w.drewN 0 := rfl
theorem drewN_add (w : World) (a b : Nat) : (w.drewN a).drewN b = w.drewN (a + b) := by
  simp [World.drewN, Nat.add_assoc]
def beginsB (a b : List Int) : Bool := decide (b <+: a)
theorem beginsB_short {a b : List Int} (h : a.length < b.length) : beginsB a b = false := by
  simp only [beginsB, decide_eq_false_iff_not]
  intro hp
  have := hp.length_le
  omega
theorem beginsB_no {a b : List Int} {j : Nat} (hj : j < b.length) (hja : j < a.length) (h : nth a j ≠ nth b j) : beginsB a b = false := by
  simp only [beginsB, decide_eq_false_iff_not]
  rintro ⟨r, rfl⟩
  apply h
  rw [nth_eq _ hja, nth_eq _ hj, List.getElem_append_left hj]
theorem beginsB_yes {a b : List Int} (hl : b.length ≤ a.length) (h : ∀ j, j < b.length → nth a j = nth b j) : beginsB a b = true := by
  simp only [beginsB, decide_eq_true_eq]
  have : b = a.take b.length := by
    apply List.ext_getElem
    · simp; omega
    · intro i h1 h2
      have := h i h1
      rw [nth_eq _ (by omega), nth_eq _ h1] at this
      simp [this]
  rw [this]
  exact List.take_prefix _ _

set_option maxRecDepth 100000 in
set_option maxHeartbeats 2000000 in
theorem begins_any {a b : List Int} {A A' : Option Addr} {c c' : Nat} (w : World) (ha : IntsIn w.heap.size w A a) (hb : IntsIn w.heap.size w A' b) :
    Calls Tryd.prog 14 #[.slice A a.length c, .slice A' b.length c'] w (BoolPost (beginsB a b) w) := by
  by_cases hs : a.length < b.length
  · have HB := Lib.hid (beginsB_short hs)
    go_enter Tryd.func14, Tryd.ntmps14
    have hs' : (a.length : Int) < (b.length : Int) := by omega
    go_wp2_with fail
    go_ret
    exact ⟨ret_bool HB.out.symm, 0, rfl⟩
  · have hs' : ¬ (a.length : Int) < (b.length : Int) := by omega
    have h1 := ha.1
    have h2 := hb.1
    have HA := Lib.hid ha
    have HBI := Lib.hid hb
    clear ha hb
    go_enter Tryd.func14, Tryd.ntmps14
    go_wp2_with fail
    go_loopw [5] (fun i wr => ∃ (j n : Nat), j ≤ b.length ∧ i = .int .i64 (j : Int) ∧ wr = w.drewN n ∧ Hid (∀ q, q < j → nth a q = nth b q)) (fun i _ => b.length + 1 - (intOf i).toNat)
    case atStart => exact ⟨0, 0, by omega, rfl, rfl, Lib.hid (by intro q h; omega)⟩
    case round =>
      obtain ⟨j, n, hj, rfl, rfl, hq⟩ := hrel
      by_cases hlt : j < b.length
      · obtain ⟨ab, ao, rfl, hab, hac⟩ := HA.out.at_ (by omega)
        obtain ⟨bb, bo, rfl, hbb, hbc⟩ := HBI.out.at_ (by omega)
        have ca : w.cell? ⟨ab, ao + j, none⟩ = some (.int .i64 (nth a j)) := hac j (by omega)
        have cb : w.cell? ⟨bb, bo + j, none⟩ = some (.int .i64 (nth b j)) := hbc j (by omega)
        have hj0 : (0 : Int) ≤ (j : Int) := by omega
        have hja : (j : Int) < (a.length : Int) := by omega
        have hjb : (j : Int) < (b.length : Int) := by omega
        clear hac hbc
        by_cases hx : nth a j = nth b j
        · have hx' : (nth a j == nth b j) = true := by simpa using hx
          have hq' : Hid (∀ q, q < j + 1 → nth a q = nth b q) := Lib.hid (fun q hlt' => by
            by_cases h : q = j
            · subst h; exact hx
            · exact hq.out q (by omega))
          clear hx
          generalize nth a j = x at *
          generalize nth b j = y at *
          obtain rfl : x = y := by simpa using hx'
          go_wp2_with fail
          go_quiet (fail)
          go_wp2_with fail
          go_roundw
          case rel => exact ⟨j + 1, _, by omega, by go_num, rfl, hq'⟩
          case measure => simp [intOf]; omega
        · have hx' : (nth a j == nth b j) = false := by simpa using hx
          have HB := Lib.hid (beginsB_no hlt (by omega) hx)
          have HXN := Lib.hid hx
          clear hx
          generalize nth a j = x at *
          generalize nth b j = y at *
          go_wp2_with fail
          go_quiet (fail)
          go_wp2_with fail
          go_ret
          exact ⟨ret_bool HB.out.symm, _, drewN_add _ _ _⟩
      · have hjl : ¬ (j : Int) < (b.length : Int) := by omega
        have HB := Lib.hid (beginsB_yes (a := a) (b := b) (by omega) (fun q h => hq.out q (by omega)))
        go_wp2_with fail
        go_ret
        exact ⟨ret_bool HB.out.symm, n, rfl⟩

theorem begins_eq {a b : List Int} (h : a.length = b.length) : beginsB a b = decide (a = b) := by
  simp only [beginsB, decide_eq_decide]
  constructor
  · intro hp; exact (hp.eq_of_length h.symm).symm
  · rintro rfl; exact List.prefix_refl _

set_option maxRecDepth 100000 in
set_option maxHeartbeats 2000000 in
theorem sameInts_any {a b : List Int} {A A' : Option Addr} {c c' : Nat} (w : World) (ha : IntsIn w.heap.size w A a) (hb : IntsIn w.heap.size w A' b) :
    Calls Tryd.prog 22 #[.slice A a.length c, .slice A' b.length c'] w (BoolPost (decide (a = b)) w) := by
  by_cases hs : a.length = b.length
  · have HB := Lib.hid (begins_eq hs)
    have hs' : ((a.length : Int) == (b.length : Int)) = true := by simp [hs]
    have HC := Lib.hid (begins_any (c := c) (c' := c') w ha hb)
    clear ha hb
    generalize a.length = la at *
    generalize b.length = lb at *
    subst hs
    go_enter Tryd.func22, Tryd.ntmps22
    go_wp2_with (go_at_call 14; refine HC.out.mono ?_; rintro e w' ⟨rfl, n, rfl⟩)
    go_ret
    exact ⟨ret_bool HB.out, n, rfl⟩
  · have HB := Lib.hid (show decide (a = b) = false from by simp; intro h; exact hs (by rw [h]))
    have hs' : ((a.length : Int) == (b.length : Int)) = false := by simp; omega
    clear ha hb
    generalize a.length = la at *
    generalize b.length = lb at *
    go_enter Tryd.func22, Tryd.ntmps22
    go_wp2_with fail
    go_ret
    exact ⟨ret_bool HB.out.symm, 0, rfl⟩

/-- an end as a value -/
def EndV (w : World) (pe : PEnd) (v : Value) : Prop := ∃ A c, v = .agg #[.int .i64 pe.kind, .int .i64 pe.n, .slice A pe.out.length c, .int .i64 pe.steps] ∧ IntsIn w.heap.size w A pe.out
theorem EndV.below {w w' : World} {pe : PEnd} {v : Value} (h : EndV w pe v) (hb : Below w.heap.size w w') : EndV w' pe v := by
  obtain ⟨A, c, rfl, hi⟩ := h
  exact ⟨A, c, rfl, (hi.below hb).mono hb.size⟩
def sameE (p q : PEnd) : Bool := decide (p.kind = q.kind ∧ p.n = q.n ∧ p.out = q.out)
def BoolBelow (b : Bool) (w : World) (e : Ending) (w' : World) : Prop := e = .returned (.bool b) ∧ Below w.heap.size w w'

set_option maxRecDepth 100000 in
set_option maxHeartbeats 2000000 in
theorem same_any {p q : PEnd} {v u : Value} (w : World) (hp : EndV w p v) (hq : EndV w q u) : Calls Tryd.prog 12 #[v, u] w (BoolBelow (sameE p q) w) := by
  obtain ⟨A, c, rfl, hi⟩ := hp
  obtain ⟨A', c', rfl, hi'⟩ := hq
  have hb : Below w.heap.size w ((w.alloc (.cells #[.int .i64 p.kind, .int .i64 p.n, .slice A p.out.length c, .int .i64 p.steps] 31)).alloc (.cells #[.int .i64 q.kind, .int .i64 q.n, .slice A' q.out.length c', .int .i64 q.steps] 31)) :=
    ((Below.refl _ _).alloc (Nat.le_refl _) _).alloc (by rw [World.size_alloc]; exact Nat.le_succ _) _
  have HC := Lib.hid (sameInts_any (c := c) (c' := c') _ ((hi.below hb).mono hb.size) ((hi'.below hb).mono hb.size))
  have HB := Lib.hid hb
  clear hi hi' hb
  by_cases h1 : p.kind = q.kind
  · have h1' : (p.kind == q.kind) = true := by simpa using h1
    by_cases h2 : p.n = q.n
    · have h2' : (p.n == q.n) = true := by simpa using h2
      have HS := Lib.hid (show sameE p q = decide (p.out = q.out) from by simp [sameE, h1, h2])
      clear h1 h2
      generalize p.kind = pk at *
      generalize q.kind = qk at *
      generalize p.n = pn at *
      generalize q.n = qn at *
      go_enter Tryd.func12, Tryd.ntmps12
      go_wp2_with (go_at_call 22; refine HC.out.mono ?_; rintro e w' ⟨rfl, n, rfl⟩)
      go_ret
      exact ⟨ret_bool HS.out.symm, below_drewN HB.out n⟩
    · have h2' : (p.n == q.n) = false := by simpa using h2
      have HS := Lib.hid (show sameE p q = false from by simp [sameE, h2])
      clear h1 h2
      go_enter Tryd.func12, Tryd.ntmps12
      go_wp2_with fail
      go_ret
      exact ⟨ret_bool HS.out.symm, HB.out⟩
  · have h1' : (p.kind == q.kind) = false := by simpa using h1
    have HS := Lib.hid (show sameE p q = false from by simp [sameE, h1])
    clear h1
    go_enter Tryd.func12, Tryd.ntmps12
    go_wp2_with fail
    go_ret
    exact ⟨ret_bool HS.out.symm, HB.out⟩

theorem short_any (f : Int) (w : World) : Calls Tryd.prog 10 #[.int .i64 f] w fun e w' => e = .returned (.int .i64 (min f 1500)) ∧ w = w' := by
  go_enter Tryd.func10, Tryd.ntmps10
  go_wp2_with fail
  all_goals
    go_ret
    exact ⟨ret_int (by omega), rfl⟩
end Go.Proofs.YtnolhcdfknjncaaDoor

/-
  The law's guard: how many nodes a term has; Few.
-/
set_option linter.unusedVariables false
set_option linter.unusedSimpArgs false
namespace Go.Proofs.YtnolhcdfknjncaaDoor
open Go.RowKit

mutual
def nodesE : Core → Nat
  | .mk _ _ ks cs => nodesK (1 + ks.length) cs
def nodesK : Nat → List Core → Nat
  | m, [] => m
  | m, c :: cs => if m < 400 then nodesK (m + nodesE c) cs else m
end
theorem nodesK_ge : ∀ (m : Nat) (cs : List Core), m ≤ nodesK m cs
  | m, [] => by simp [nodesK]
  | m, c :: cs => by
    simp only [nodesK]
    split
    · exact Nat.le_trans (Nat.le_add_right _ _) (nodesK_ge _ cs)
    · exact Nat.le_refl _
theorem nodesK_le {N : Nat} : ∀ (m : Nat) (cs : List Core), (∀ c ∈ cs, nodesE c ≤ N) → m ≤ N + 399 → nodesK m cs ≤ N + 399
  | m, [], _, hm => by simpa [nodesK] using hm
  | m, c :: cs, h, hm => by
    simp only [nodesK]
    split
    · have := h c (by simp)
      exact nodesK_le _ cs (fun x hx => h x (by simp [hx])) (by omega)
    · exact hm
theorem nodesK_kid : ∀ (m : Nat) (cs : List Core), nodesK m cs < 400 → ∀ c ∈ cs, m + nodesE c ≤ nodesK m cs
  | m, [], _, c, hc => by simp at hc
  | m, d :: cs, h, c, hc => by
    simp only [nodesK] at h ⊢
    split at h
    · rename_i hm
      rw [if_pos hm]
      rcases List.mem_cons.1 hc with rfl | hc
      · exact nodesK_ge _ cs
      · have := nodesK_kid _ cs h c hc
        omega
    · omega
theorem hgt_le_nodes : ∀ (t : Core), nodesE t < 400 → t.hgt ≤ nodesE t
  | .mk k n ks cs, h => by
    simp only [nodesE] at h ⊢
    have hk := nodesK_kid _ cs h
    have hg := nodesK_ge (1 + ks.length) cs
    have : hgtL cs ≤ nodesK (1 + ks.length) cs - 1 := hgtL_le (fun c hc => by
      have h1 := hk c hc
      have h2 := hgt_le_nodes c (by omega)
      omega)
    simp only [Core.hgt]
    omega
set_option maxRecDepth 100000 in
theorem nodes_bound {B : Nat} {w : World} {t : Core} {v : Array Value} (h : CoreIn B w t v) : nodesE t ≤ 18000000000000 + 400 * t.hgt := by
  induction h with
  | @mk k n ks cs Ak ck Ac cc b o G0 G1 G2 G3 hks hck hcc hcl hA c0 c1 c2 c3 hsub ih =>
    have hl := hks.1
    simp only [nodesE, Core.hgt]
    have := nodesK_le (N := 18000000000000 + 400 * hgtL cs) (1 + ks.length) cs (fun c hc => by
      obtain ⟨i, hi, rfl⟩ := List.getElem_of_mem hc
      have h1 := ih i hi
      have h2 := hgtL_get hi
      omega) (by omega)
    omega
theorem nodesK_step {m : Nat} {cs : List Core} {j : Nat} (hj : j < cs.length) (hm : m < 400) : nodesK m (cs.drop j) = nodesK (m + nodesE cs[j]) (cs.drop (j + 1)) := by
  rw [List.drop_eq_getElem_cons hj, nodesK, if_pos hm]
theorem nodesK_stop {m : Nat} {cs : List Core} (hm : ¬ m < 400) : nodesK m cs = m := by
  cases cs with
  | nil => simp [nodesK]
  | cons c cs => rw [nodesK, if_neg hm]

set_option maxRecDepth 100000 in
set_option maxHeartbeats 2000000 in
theorem nodes_any {B : Nat} {w0 : World} {t : Core} {v : Array Value} (hin : CoreIn B w0 t v) : ∀ (W : World), Stay B w0 W → B ≤ W.heap.size → t.hgt ≤ 1048576 →
    Calls Tryd.prog 20 #[.agg v, .int .i64 400] W fun e w' => e = .returned (.int .i64 (nodesE t)) ∧ Below W.heap.size W w' := by
  induction hin with
  | @mk k n ks cs Ak ck Ac cc b o G0 G1 G2 G3 hks hck hcc hcl hA c0 c1 c2 c3 hsub ih =>
    intro W hst hBW hh
    have hbd := nodes_bound (CoreIn.mk (k := k) (n := n) hks hck hcc hcl hA c0 c1 c2 c3 hsub)
    simp only [Core.hgt] at hh hbd
    obtain ⟨W0, hW0⟩ : ∃ W0, W.alloc (.cells #[.int .i64 k, .int .i64 n, .slice Ak ks.length ck, .slice Ac cs.length cc] 26) = W0 := ⟨_, rfl⟩
    have hb0 : Below W.heap.size W W0 := by rw [← hW0]; exact (Below.refl _ _).alloc (Nat.le_refl _) _
    have hs0 : W.heap.size < W0.heap.size := by rw [← hW0]; simp
    have e2 : W0.cell? ⟨W.heap.size, 2, none⟩ = some (.slice Ak ks.length ck) := by rw [← hW0, World.cell?_alloc_at _ _ _ _ rfl]; rfl
    have e3 : W0.cell? ⟨W.heap.size, 3, none⟩ = some (.slice Ac cs.length cc) := by rw [← hW0, World.cell?_alloc_at _ _ _ _ rfl]; rfl
    have hkl := hks.1
    have hst0 : Stay B w0 W0 := fun c q u hc hu => (hb0.cell (p := ⟨c, q, none⟩) (by show c < _; omega)).trans (hst _ _ _ hc hu)
    have HK := Lib.hid (fun (j : Nat) (hj : j < cs.length) (V : World) (hV : Below W0.heap.size W0 V) =>
      (show ∃ x0 x1 A2 n2 d2 A3 n3 d3, Ac = some ⟨b, o, none⟩ ∧ V.cell? ⟨b, o + j * 4, none⟩ = some (.int .i64 x0) ∧ V.cell? ⟨b, o + j * 4 + 1, none⟩ = some (.int .i64 x1) ∧ V.cell? ⟨b, o + j * 4 + 2, none⟩ = some (.slice A2 n2 d2) ∧ V.cell? ⟨b, o + j * 4 + 3, none⟩ = some (.slice A3 n3 d3) ∧
          Calls Tryd.prog 20 #[.agg #[.int .i64 x0, .int .i64 x1, .slice A2 n2 d2, .slice A3 n3 d3], .int .i64 400] V fun e w' => e = .returned (.int .i64 (nodesE cs[j])) ∧ Below V.heap.size V w' from by
        obtain ⟨x0, x1, A2, n2, d2, A3, n3, d3, hsh⟩ := (hsub j hj).shape
        have hs := hsh
        simp only [Array.mk.injEq, List.cons.injEq, and_true] at hsh
        obtain ⟨s0, s1, s2, s3⟩ := hsh
        obtain ⟨ha, hbB⟩ := hA (by omega)
        have hstV : Stay B w0 V := fun c q u hc hu => (hV.cell (p := ⟨c, q, none⟩) (by show c < _; omega)).trans (hst0 _ _ _ hc hu)
        refine ⟨x0, x1, A2, n2, d2, A3, n3, d3, ha, ?_, ?_, ?_, ?_, ?_⟩
        · rw [← s0]; exact hstV _ _ _ hbB (c0 j hj)
        · rw [← s1]; exact hstV _ _ _ hbB (c1 j hj)
        · rw [← s2]; exact hstV _ _ _ hbB (c2 j hj)
        · rw [← s3]; exact hstV _ _ _ hbB (c3 j hj)
        · rw [← hs]
          exact ih j hj V hstV (by have := hV.size; omega) (by have := hgtL_get hj; omega)))
    have HN := Lib.hid (show ∀ j (hj : j < cs.length), nodesE cs[j] ≤ 18000000000000 + 400 * 1048576 from fun j hj => by
      have h1 := nodes_bound (hsub j hj)
      have h2 := hgtL_get hj
      omega)
    have HB0 := Lib.hid hb0
    have HS0 := Lib.hid hs0
    have HBD := Lib.hid hbd
    clear ih hsub c0 c1 c2 c3 hA hst hst0 hks hb0 hbd hs0
    simp only [nodesE]
    have hck' : ks.length ≤ 17592186043904 := by omega
    have hcl' : cs.length ≤ 3000000000000 := by omega
    generalize ks.length = kl at *
    obtain ⟨cl, hcl2⟩ : ∃ cl, cs.length = cl := ⟨_, rfl⟩
    rw [hcl2] at e3 hcl' 
    have HCL := Lib.hid hcl2
    rw [hcl2] at hW0 ⊢
    clear hcl2 hcc hcl hck hkl
    go_enter Tryd.func20, Tryd.ntmps20
    go_wp2_with fail
    go_loopw [5, 6] (fun m i wr => ∃ (j mm : Nat), j ≤ cl ∧ i = .int .i64 (j : Int) ∧ m = .int .i64 (mm : Int) ∧ Hid (Below W0.heap.size W0 wr) ∧ mm ≤ 18001000000000 ∧ Hid (nodesK (1 + kl) cs = nodesK mm (cs.drop j))) (fun _ i _ => cl + 1 - (intOf i).toNat)
    case atStart => exact ⟨0, 1 + kl, by omega, rfl, by go_num, Lib.hid (Below.refl _ _), by omega, Lib.hid (by simp)⟩
    case round =>
      obtain ⟨j, mm, hj, rfl, rfl, hbel, hmm, heq⟩ := hrel
      have q2 := (hbel.out.cell (p := ⟨W.heap.size, 3, none⟩) HS0.out).trans e3
      by_cases hlt : j < cl
      · have hj0 : (0 : Int) ≤ (j : Int) := by omega
        have hjl : (j : Int) < (cl : Int) := by omega
        by_cases hm4 : mm < 400
        · have hm4' : (mm : Int) < 400 := by omega
          have hjc : j < cs.length := by rw [HCL.out]; exact hlt
          obtain ⟨x0, x1, A2, n2, d2, A3, n3, d3, rfl, r0, r1, r2, r3, hC⟩ := HK.out j hjc wr hbel.out
          have HC := Lib.hid hC
          have hnb := HN.out j hjc
          have HE := Lib.hid (heq.out.trans (nodesK_step hjc hm4))
          have HD := Lib.hid hmm
          clear hC heq hmm
          generalize nodesE cs[j] = nk at *
          go_wp2_with (go_at_call 20; refine HC.out.mono ?_; rintro e w' ⟨rfl, hb2⟩)
          go_roundw
          case rel => exact ⟨j + 1, mm + nk, by omega, by go_num, by go_num, Lib.hid (hbel.out.trans (hb2.mono hbel.out.size)), by omega, HE.out⟩
          case measure => simp [intOf]; omega
        · have hm4' : ¬ (mm : Int) < 400 := by omega
          have HE := Lib.hid (heq.out.trans (nodesK_stop hm4))
          clear heq
          go_wp2_with fail
          go_ret
          exact ⟨ret_int (by rw [HE.out]), HB0.out.trans (hbel.out.mono (Nat.le_of_lt HS0.out))⟩
      · have hjl : ¬ (j : Int) < (cl : Int) := by omega
        have hdr : cs.drop j = [] := List.drop_eq_nil_iff.2 (by rw [HCL.out]; omega)
        have HE := Lib.hid (heq.out.trans (by rw [hdr]; simp [nodesK] : _ = mm))
        clear heq hdr
        go_wp2_with fail
        go_ret
        exact ⟨ret_int (by rw [HE.out]), HB0.out.trans (hbel.out.mono (Nat.le_of_lt HS0.out))⟩
end Go.Proofs.YtnolhcdfknjncaaDoor

/-
  Few; terms that a law makes.
-/
set_option linter.unusedVariables false
set_option linter.unusedSimpArgs false
namespace Go.Proofs.YtnolhcdfknjncaaDoor
open Go.RowKit

def fewB (t : Core) (inp : List Int) : Bool := decide (nodesE t < 400 ∧ inp.length ≤ 60)

set_option maxRecDepth 100000 in
set_option maxHeartbeats 2000000 in
theorem few_any {t : Core} {v : Array Value} (W : World) (hin : CoreIn W.heap.size W t v) (hh : t.hgt ≤ 1048576) (inp : List Int) (Ai : Option Addr) (ci : Nat) :
    Calls Tryd.prog 7 #[.agg v, .slice Ai inp.length ci] W (BoolBelow (fewB t inp) W) := by
  obtain ⟨k0, n0, A2, n2, d2, A3, n3, d3, rfl⟩ := hin.shape
  have hb0 : Below W.heap.size W (W.alloc (.cells #[.int .i64 k0, .int .i64 n0, .slice A2 n2 d2, .slice A3 n3 d3] 26)) := (Below.refl _ _).alloc (Nat.le_refl _) _
  have HC := Lib.hid (nodes_any hin _ (Stay.of_below hb0) hb0.size hh)
  have HB := Lib.hid hb0
  have HF := Lib.hid (show fewB t inp = decide (nodesE t < 400 ∧ inp.length ≤ 60) from rfl)
  clear hin hb0
  generalize nodesE t = nt at *
  generalize inp.length = L at *
  by_cases h1 : nt < 400
  · have h1' : (nt : Int) < 400 := by omega
    go_enter Tryd.func7, Tryd.ntmps7
    go_wp2_with (go_at_call 20; refine HC.out.mono ?_; rintro e w' ⟨rfl, hb⟩)
    go_ret
    exact ⟨ret_bool (by rw [HF.out]; simp [h1]; omega), HB.out.trans (hb.mono HB.out.size)⟩
  · have h1' : ¬ (nt : Int) < 400 := by omega
    go_enter Tryd.func7, Tryd.ntmps7
    go_wp2_with (go_at_call 20; refine HC.out.mono ?_; rintro e w' ⟨rfl, hb⟩)
    go_ret
    exact ⟨ret_bool (by rw [HF.out]; simp [h1]), HB.out.trans (hb.mono HB.out.size)⟩

/-! ### terms that are made -/
theorem ints_nil (B : Nat) (w : World) : IntsIn B w none [] := ⟨by simp, .inl rfl⟩
theorem CoreIn.leaf (B : Nat) (w : World) (k n : Int) : CoreIn B w (.mk k n [] []) #[.int .i64 k, .int .i64 n, .slice none 0 0, .slice none 0 0] :=
  CoreIn.mk (b := 0) (o := 0) (G0 := fun _ => .nilIface) (G1 := fun _ => .nilIface) (G2 := fun _ => .nilIface) (G3 := fun _ => .nilIface) (ints_nil B w) (Nat.le_refl _) (Nat.le_refl _) (by simp) (by simp) (by simp) (by simp) (by simp) (by simp) (by intro i h; simp at h)
theorem CoreIn.one {B : Nat} {w : World} (k n : Int) {c : Core} {x0 x1 x2 x3 : Value} (hc : CoreIn B w c #[x0, x1, x2, x3]) {b : Nat} (hb : b < B) {T : TypeId} {fr : Nat × Nat} (hh : w.heap[b]? = some (.cells #[x0, x1, x2, x3] T fr)) :
    CoreIn B w (.mk k n [] [c]) #[.int .i64 k, .int .i64 n, .slice none 0 0, .slice (some ⟨b, 0, none⟩) 1 1] :=
  CoreIn.mk (cs := [c]) (b := b) (o := 0) (G0 := fun _ => x0) (G1 := fun _ => x1) (G2 := fun _ => x2) (G3 := fun _ => x3) (ints_nil B w) (Nat.le_refl _) (Nat.le_refl _) (by simp) (fun _ => ⟨rfl, hb⟩)
    (by intro i h; obtain rfl : i = 0 := by simpa using h
        simp [World.cell?, hh]) (by intro i h; obtain rfl : i = 0 := by simpa using h
                                    simp [World.cell?, hh]) (by intro i h; obtain rfl : i = 0 := by simpa using h
                                                                simp [World.cell?, hh]) (by intro i h; obtain rfl : i = 0 := by simpa using h
                                                                                            simp [World.cell?, hh]) (by intro i h; obtain rfl : i = 0 := by simpa using h
                                                                                                                        exact hc)
theorem CoreIn.two {B : Nat} {w : World} (k n : Int) {c d : Core} {x0 x1 x2 x3 y0 y1 y2 y3 : Value} (hc : CoreIn B w c #[x0, x1, x2, x3]) (hd : CoreIn B w d #[y0, y1, y2, y3]) {b : Nat} (hb : b < B) {T : TypeId} {fr : Nat × Nat} (hh : w.heap[b]? = some (.cells #[x0, x1, x2, x3, y0, y1, y2, y3] T fr)) :
    CoreIn B w (.mk k n [] [c, d]) #[.int .i64 k, .int .i64 n, .slice none 0 0, .slice (some ⟨b, 0, none⟩) 2 2] := by
  refine CoreIn.mk (cs := [c, d]) (b := b) (o := 0) (G0 := fun i => if i = 0 then x0 else y0) (G1 := fun i => if i = 0 then x1 else y1) (G2 := fun i => if i = 0 then x2 else y2) (G3 := fun i => if i = 0 then x3 else y3) (ints_nil B w) (Nat.le_refl _) (Nat.le_refl _) (by simp) (fun _ => ⟨rfl, hb⟩) ?_ ?_ ?_ ?_ ?_
  all_goals
    intro i h
    have hi : i = 0 ∨ i = 1 := by simp at h; omega
    rcases hi with rfl | rfl
    all_goals first
      | exact hc
      | exact hd
      | (simp [World.cell?, hh]; done)

theorem heap3 (w : World) (a b c : Obj) : (((w.alloc a).alloc b).alloc c).heap[w.heap.size + 1 + 1]? = some c := by
  have := World.alloc_heap_new ((w.alloc a).alloc b) c
  rw [World.size_alloc, World.size_alloc] at this
  exact this
theorem heap4 (w : World) (a b c d : Obj) : ((((w.alloc a).alloc b).alloc c).alloc d).heap[w.heap.size + 1 + 1 + 1]? = some d := by
  have := World.alloc_heap_new (((w.alloc a).alloc b).alloc c) d
  rw [World.size_alloc, World.size_alloc, World.size_alloc] at this
  exact this
/-- a term is handed back -/
def TermPost (t : Core) (w : World) (e : Ending) (w' : World) : Prop := ∃ c0 c1 c2 c3, e = .returned (.agg #[c0, c1, c2, c3]) ∧ CoreIn w'.heap.size w' t #[c0, c1, c2, c3] ∧ Below w.heap.size w w'
theorem CoreIn.later {w w' : World} {t : Core} {v : Array Value} (h : CoreIn w.heap.size w t v) (hb : Below w.heap.size w w') : CoreIn w'.heap.size w' t v := (h.kept hb).mono hb.size

set_option maxRecDepth 100000 in
set_option maxHeartbeats 1000000 in
theorem lprim_any {p : Int} {cs : List Core} {A : Option Addr} {n c : Nat} (w : World) (hin : CoreIn w.heap.size w (.mk 10 p [] cs) #[.int .i64 10, .int .i64 p, .slice none 0 0, .slice A n c]) :
    Calls Tryd.prog 21 #[.int .i64 p, .slice A n c] w (TermPost (.mk 10 p [] cs) w) := by
  have HI := Lib.hid hin
  clear hin
  go_enter Tryd.func21, Tryd.ntmps21
  go_wp2_with fail
  have hb : Below w.heap.size w (w.alloc (.cells #[.int .i64 10, .int .i64 p, .slice none 0 0, .slice A n c] 26)) := (Below.refl _ _).alloc (Nat.le_refl _) _
  exact bodyPost_ret (v := .agg #[.int .i64 10, .int .i64 p, .slice none 0 0, .slice A n c]) (by simp [results, Tryd.results21, go_sem]) rfl ⟨_, _, _, _, rfl, HI.out.later hb, hb⟩

set_option maxRecDepth 100000 in
set_option maxHeartbeats 1000000 in
theorem lfn_any (p : Int) {t : Core} {c0 c1 c2 c3 : Value} (w : World) (hin : CoreIn w.heap.size w t #[c0, c1, c2, c3]) :
    Calls Tryd.prog 17 #[.int .i64 p, .agg #[c0, c1, c2, c3]] w (TermPost (.mk 3 p [] [t]) w) := by
  obtain ⟨k0, n0, A2, n2, d2, A3, n3, d3, hsh⟩ := hin.shape
  have HI := Lib.hid hin
  clear hin
  simp only [Array.mk.injEq, List.cons.injEq, and_true] at hsh
  obtain ⟨rfl, rfl, rfl, rfl⟩ := hsh
  go_enter Tryd.func17, Tryd.ntmps17
  go_wp2_with fail
  have hb : Below w.heap.size w (((w.alloc (.cells #[.int .i64 k0, .int .i64 n0, .slice A2 n2 d2, .slice A3 n3 d3] 26)).alloc (.cells #[.int .i64 3, .int .i64 p, .slice none 0 0, .slice (some ⟨w.heap.size + 1 + 1, 0, none⟩) 1 1] 26)).alloc (.cells #[.int .i64 k0, .int .i64 n0, .slice A2 n2 d2, .slice A3 n3 d3] 26)) :=
    (((Below.refl _ _).alloc (Nat.le_refl _) _).alloc (by simp) _).alloc (by simp; omega) _
  exact bodyPost_ret (v := .agg #[.int .i64 3, .int .i64 p, .slice none 0 0, .slice (some ⟨w.heap.size + 1 + 1, 0, none⟩) 1 1]) (by simp [results, Tryd.results17, go_sem]) rfl ⟨_, _, _, _, rfl, CoreIn.one 3 p (HI.out.later hb) (by simp) (heap3 _ _ _ _), hb⟩

set_option maxRecDepth 100000 in
set_option maxHeartbeats 1000000 in
theorem llet_any (x : Int) {t u : Core} {c0 c1 c2 c3 e0 e1 e2 e3 : Value} (w : World) (hin : CoreIn w.heap.size w t #[c0, c1, c2, c3]) (hin2 : CoreIn w.heap.size w u #[e0, e1, e2, e3]) :
    Calls Tryd.prog 18 #[.int .i64 x, .agg #[c0, c1, c2, c3], .agg #[e0, e1, e2, e3]] w (TermPost (.mk 5 x [] [t, u]) w) := by
  obtain ⟨k0, n0, A2, n2, d2, A3, n3, d3, hsh⟩ := hin.shape
  obtain ⟨k0', n0', A2', n2', d2', A3', n3', d3', hsh'⟩ := hin2.shape
  have HI := Lib.hid hin
  have HI2 := Lib.hid hin2
  clear hin hin2
  simp only [Array.mk.injEq, List.cons.injEq, and_true] at hsh hsh'
  obtain ⟨rfl, rfl, rfl, rfl⟩ := hsh
  obtain ⟨rfl, rfl, rfl, rfl⟩ := hsh'
  go_enter Tryd.func18, Tryd.ntmps18
  go_wp2_with fail
  have hb : Below w.heap.size w ((((w.alloc (.cells #[.int .i64 k0, .int .i64 n0, .slice A2 n2 d2, .slice A3 n3 d3] 26)).alloc (.cells #[.int .i64 k0', .int .i64 n0', .slice A2' n2' d2', .slice A3' n3' d3'] 26)).alloc (.cells #[.int .i64 5, .int .i64 x, .slice none 0 0, .slice (some ⟨w.heap.size + 1 + 1 + 1, 0, none⟩) 2 2] 26)).alloc (.cells #[.int .i64 k0, .int .i64 n0, .slice A2 n2 d2, .slice A3 n3 d3, .int .i64 k0', .int .i64 n0', .slice A2' n2' d2', .slice A3' n3' d3'] 26)) :=
    ((((Below.refl _ _).alloc (Nat.le_refl _) _).alloc (by simp) _).alloc (by simp; omega) _).alloc (by simp; omega) _
  exact bodyPost_ret (v := .agg #[.int .i64 5, .int .i64 x, .slice none 0 0, .slice (some ⟨w.heap.size + 1 + 1 + 1, 0, none⟩) 2 2]) (by simp [results, Tryd.results18, go_sem]) rfl ⟨_, _, _, _, rfl, CoreIn.two 5 x (HI.out.later hb) (HI2.out.later hb) (by simp) (heap4 _ _ _ _ _), hb⟩

theorem know1 : runE (.mk 5 0 [] [.mk 10 13 [] [.mk 2 7 [] []], .mk 1 1 [] []]) [] 99 = ⟨4, 0, [7], 4⟩ := by kernel_rfl
theorem know2 : runE (.mk 10 16 [] [.mk 3 0 [] [.mk 10 15 [] [.mk 2 7 [] []]], .mk 3 1 [] [.mk 10 13 [] [.mk 1 1 [] []]]]) [] 99 = ⟨1, 0, [7], 7⟩ := by kernel_rfl

/-- what a run of the program needs besides -/
def Ready (w : World) : Prop := TabIn w ∧ 0 < w.heap.size
theorem Ready.below {w w' : World} (h : Ready w) (hb : Below w.heap.size w w') : Ready w' := ⟨h.1.kept h.2 hb, Nat.lt_of_lt_of_le h.2 hb.size⟩
/-- a run in one word -/
def RunPost (pe : PEnd) (w : World) (e : Ending) (w' : World) : Prop := ∃ v A c, v = .agg #[.int .i64 pe.kind, .int .i64 pe.n, .slice A pe.out.length c, .int .i64 pe.steps] ∧ e = .returned v ∧ EndV w' pe v ∧ Below w.heap.size w w' ∧ (∀ a, A = some a → w.heap.size ≤ a.block)
theorem run_ready {w : World} (hr : Ready w) {t : Core} {v : Array Value} (hin : CoreIn w.heap.size w t v) (hh : t.hgt ≤ 50000) {inp : List Int} {Ai : Option Addr} {ci : Nat} (hi : IntsIn w.heap.size w Ai inp) (hci : inp.length ≤ ci) (f : Int) :
    Calls Tryd.prog 9 #[.agg v, .slice Ai inp.length ci, .int .i64 f] w (RunPost (runE t inp f) w) := by
  refine (run_any hin (Nat.le_refl _) hr.2 hr.1 (by omega) hi hci f).mono fun e w' ⟨A, c, h1, h2, h3, h5, h4⟩ => ⟨_, A, c, rfl, h1, ⟨A, c, rfl, h2⟩, h4, h5⟩

theorem ints_seven {V : World} {b : Nat} (h : V.cell? ⟨b, 0, none⟩ = some (.int .i64 7)) : IntsIn V.heap.size V (some ⟨b, 0, none⟩) [7] := by
  refine ⟨by simp, .inr ⟨b, 0, rfl, World.block_lt_of_cell? _ _ h, fun j hj => ?_⟩⟩
  obtain rfl : j = 0 := by simpa using hj
  simpa [nth] using h

set_option maxRecDepth 100000 in
set_option maxHeartbeats 4000000 in
theorem knows_any (w : World) (hr : Ready w) : Calls Tryd.prog 8 #[] w (BoolBelow true w) := by
  go_enter Tryd.func8, Tryd.ntmps8
  go_wp2_with fail
  have hb1 : Below w.heap.size w ((w.alloc (.cells #[.int .i64 2, .int .i64 7, .slice none 0 0, .slice none 0 0] 26)).alloc (.cells #[.int .i64 2, .int .i64 7, .slice none 0 0, .slice none 0 0] 26)) := ((Below.refl _ _).alloc (Nat.le_refl _) _).alloc (by simp) _
  have h1 : ((w.alloc (.cells #[.int .i64 2, .int .i64 7, .slice none 0 0, .slice none 0 0] 26)).alloc (.cells #[.int .i64 2, .int .i64 7, .slice none 0 0, .slice none 0 0] 26)).heap[w.heap.size + 1]? = some (.cells #[.int .i64 2, .int .i64 7, .slice none 0 0, .slice none 0 0] 26) := by
    have := World.alloc_heap_new (w.alloc (.cells #[.int .i64 2, .int .i64 7, .slice none 0 0, .slice none 0 0] 26)) (.cells #[.int .i64 2, .int .i64 7, .slice none 0 0, .slice none 0 0] 26)
    rw [World.size_alloc] at this
    exact this
  have h0 : ((w.alloc (.cells #[.int .i64 2, .int .i64 7, .slice none 0 0, .slice none 0 0] 26)).alloc (.cells #[.int .i64 2, .int .i64 7, .slice none 0 0, .slice none 0 0] 26)).heap[w.heap.size]? = some (.cells #[.int .i64 2, .int .i64 7, .slice none 0 0, .slice none 0 0] 26) :=
    (((Below.refl _ _).alloc (Nat.le_refl _) _ : Below (w.alloc (.cells #[.int .i64 2, .int .i64 7, .slice none 0 0, .slice none 0 0] 26)).heap.size _ _).block w.heap.size (by simp)).trans (World.alloc_heap_new w _)
  have hr1 := hr.below hb1
  have hsz1 : w.heap.size + 1 < ((w.alloc (.cells #[.int .i64 2, .int .i64 7, .slice none 0 0, .slice none 0 0] 26)).alloc (.cells #[.int .i64 2, .int .i64 7, .slice none 0 0, .slice none 0 0] 26)).heap.size := by simp
  generalize (w.alloc (.cells #[.int .i64 2, .int .i64 7, .slice none 0 0, .slice none 0 0] 26)).alloc (.cells #[.int .i64 2, .int .i64 7, .slice none 0 0, .slice none 0 0] 26) = w1 at *
  refine (lprim_any w1 (CoreIn.one 10 13 (CoreIn.leaf _ w1 2 7) hsz1 h1)).mono ?_
  rintro e w2 ⟨p0, p1, p2, p3, rfl, hp, hb2⟩
  go_wp2_with fail
  refine (llet_any 0 w2 hp (CoreIn.leaf _ w2 1 1)).mono ?_
  rintro e w3 ⟨q0, q1, q2, q3, rfl, hq, hb3⟩
  have hr3 := (hr1.below hb2).below hb3
  have hR1 := run_ready hr3 hq (by decide) (inp := []) (Ai := none) (ci := 0) (ints_nil _ _) (Nat.le_refl _) 99
  rw [know1] at hR1
  have h03 : w3.heap[w.heap.size]? = some (.cells #[.int .i64 2, .int .i64 7, .slice none 0 0, .slice none 0 0] 26) := (hb3.block _ (by have := hb2.size; omega)).trans ((hb2.block _ (by omega)).trans h0)
  go_wp2_with fail
  refine hR1.mono ?_
  rintro e w4 ⟨v, A, c, rfl, rfl, hE1, hb4, _⟩
  have h04 : w4.heap[w.heap.size]? = some (.cells #[.int .i64 2, .int .i64 7, .slice none 0 0, .slice none 0 0] 26) := (hb4.block _ (by have := hb2.size; have := hb3.size; omega)).trans h03
  have hbw4 : Below w.heap.size w w4 := hb1.trans ((hb2.mono (by omega)).trans ((hb3.mono (by have := hb2.size; omega)).trans (hb4.mono (by have := hb2.size; have := hb3.size; omega))))
  have hr4 := hr3.below hb4
  have s4 : w.heap.size < w4.heap.size := by have := hb2.size; have := hb3.size; have := hb4.size; omega
  clear hR1 h03 hr3 hq hb2 hb3 hb4 hp hr1 h1 h0 hb1 hsz1
  have k0 : w4.cell? ⟨w.heap.size, 0, none⟩ = some (.int .i64 2) := by simp [World.cell?, h04]
  have k1 : w4.cell? ⟨w.heap.size, 1, none⟩ = some (.int .i64 7) := by simp [World.cell?, h04]
  have k2 : w4.cell? ⟨w.heap.size, 2, none⟩ = some (.slice none 0 0) := by simp [World.cell?, h04]
  have k3 : w4.cell? ⟨w.heap.size, 3, none⟩ = some (.slice none 0 0) := by simp [World.cell?, h04]
  simp only [] at *
  obtain ⟨A', c', hAeq, hi1⟩ := hE1
  simp only [Value.agg.injEq, Array.mk.injEq, List.cons.injEq, Value.slice.injEq, true_and, and_true] at hAeq
  obtain ⟨rfl, rfl⟩ := hAeq
  go_wp2_with fail
  have hb5 : Below w4.heap.size w4 ((w4.alloc (.cells #[.int .i64 4, .int .i64 0, .slice A 1 c, .int .i64 4] 31)).alloc (.cells #[.int .i64 2, .int .i64 7, .slice none 0 0, .slice none 0 0] 26)) := ((Below.refl _ _).alloc (Nat.le_refl _) _).alloc (by simp) _
  have h51 : ((w4.alloc (.cells #[.int .i64 4, .int .i64 0, .slice A 1 c, .int .i64 4] 31)).alloc (.cells #[.int .i64 2, .int .i64 7, .slice none 0 0, .slice none 0 0] 26)).heap[w4.heap.size + 1]? = some (.cells #[.int .i64 2, .int .i64 7, .slice none 0 0, .slice none 0 0] 26) := by
    have := World.alloc_heap_new (w4.alloc (.cells #[.int .i64 4, .int .i64 0, .slice A 1 c, .int .i64 4] 31)) (.cells #[.int .i64 2, .int .i64 7, .slice none 0 0, .slice none 0 0] 26)
    rw [World.size_alloc] at this
    exact this
  have h50 : ((w4.alloc (.cells #[.int .i64 4, .int .i64 0, .slice A 1 c, .int .i64 4] 31)).alloc (.cells #[.int .i64 2, .int .i64 7, .slice none 0 0, .slice none 0 0] 26)).heap[w4.heap.size]? = some (.cells #[.int .i64 4, .int .i64 0, .slice A 1 c, .int .i64 4] 31) :=
    (((Below.refl _ _).alloc (Nat.le_refl _) _ : Below (w4.alloc (.cells #[.int .i64 4, .int .i64 0, .slice A 1 c, .int .i64 4] 31)).heap.size _ _).block w4.heap.size (by simp)).trans (World.alloc_heap_new w4 _)
  have hsz5 : w4.heap.size + 1 < ((w4.alloc (.cells #[.int .i64 4, .int .i64 0, .slice A 1 c, .int .i64 4] 31)).alloc (.cells #[.int .i64 2, .int .i64 7, .slice none 0 0, .slice none 0 0] 26)).heap.size := by simp
  generalize (w4.alloc (.cells #[.int .i64 4, .int .i64 0, .slice A 1 c, .int .i64 4] 31)).alloc (.cells #[.int .i64 2, .int .i64 7, .slice none 0 0, .slice none 0 0] 26) = w5 at *
  refine (lprim_any w5 (CoreIn.one 10 15 (CoreIn.leaf _ w5 2 7) hsz5 h51)).mono ?_
  rintro e w6 ⟨a0, a1, a2, a3, rfl, ha, hb6⟩
  go_wp2_with fail
  refine (lfn_any 0 w6 ha).mono ?_
  rintro e w7 ⟨f0, f1, f2, f3, rfl, hf, hb7⟩
  obtain ⟨fk, fn, fA2, fn2, fd2, fA3, fn3, fd3, hfs⟩ := hf.shape
  simp only [Array.mk.injEq, List.cons.injEq, and_true] at hfs
  obtain ⟨rfl, rfl, rfl, rfl⟩ := hfs
  go_wp2_with fail
  have hb8 : Below w7.heap.size w7 (w7.alloc (.cells #[.int .i64 1, .int .i64 1, .slice none 0 0, .slice none 0 0] 26)) := (Below.refl _ _).alloc (Nat.le_refl _) _
  have h80 := World.alloc_heap_new w7 (.cells #[.int .i64 1, .int .i64 1, .slice none 0 0, .slice none 0 0] 26)
  have hsz8 : w7.heap.size < (w7.alloc (.cells #[.int .i64 1, .int .i64 1, .slice none 0 0, .slice none 0 0] 26)).heap.size := by simp
  have hf8 := hf.later hb8
  generalize w7.alloc (.cells #[.int .i64 1, .int .i64 1, .slice none 0 0, .slice none 0 0] 26) = w8 at *
  refine (lprim_any w8 (CoreIn.one 10 13 (CoreIn.leaf _ w8 1 1) hsz8 h80)).mono ?_
  rintro e w9 ⟨b0, b1, b2, b3, rfl, hbb, hb9⟩
  go_wp2_with fail
  refine (lfn_any 1 w9 hbb).mono ?_
  rintro e w10 ⟨g0, g1, g2, g3, rfl, hg, hb10⟩
  have hf10 := (hf8.later hb9).later hb10
  obtain ⟨gk, gn, gA2, gn2, gd2, gA3, gn3, gd3, hgs⟩ := hg.shape
  simp only [Array.mk.injEq, List.cons.injEq, and_true] at hgs
  obtain ⟨rfl, rfl, rfl, rfl⟩ := hgs
  go_wp2_with fail
  have hb11 : Below w10.heap.size w10 (w10.alloc (.cells #[.int .i64 fk, .int .i64 fn, .slice fA2 fn2 fd2, .slice fA3 fn3 fd3, .int .i64 gk, .int .i64 gn, .slice gA2 gn2 gd2, .slice gA3 gn3 gd3] 26)) := (Below.refl _ _).alloc (Nat.le_refl _) _
  have h110 := World.alloc_heap_new w10 (.cells #[.int .i64 fk, .int .i64 fn, .slice fA2 fn2 fd2, .slice fA3 fn3 fd3, .int .i64 gk, .int .i64 gn, .slice gA2 gn2 gd2, .slice gA3 gn3 gd3] 26)
  have hsz11 : w10.heap.size < (w10.alloc (.cells #[.int .i64 fk, .int .i64 fn, .slice fA2 fn2 fd2, .slice fA3 fn3 fd3, .int .i64 gk, .int .i64 gn, .slice gA2 gn2 gd2, .slice gA3 gn3 gd3] 26)).heap.size := by simp
  have hf11 := hf10.later hb11
  have hg11 := hg.later hb11
  generalize w10.alloc (.cells #[.int .i64 fk, .int .i64 fn, .slice fA2 fn2 fd2, .slice fA3 fn3 fd3, .int .i64 gk, .int .i64 gn, .slice gA2 gn2 gd2, .slice gA3 gn3 gd3] 26) = w11 at *
  refine (lprim_any w11 (CoreIn.two 10 16 hf11 hg11 hsz11 h110)).mono ?_
  rintro e w12 ⟨d0, d1, d2, d3, rfl, hd, hb12⟩
  have hb412 : Below w4.heap.size w4 w12 := by
    have i5 := hb5.size; have i6 := hb6.size; have i7 := hb7.size; have i8 := hb8.size; have i9 := hb9.size; have i10 := hb10.size; have i11 := hb11.size
    exact hb5.trans ((hb6.mono (by omega)).trans ((hb7.mono (by omega)).trans ((hb8.mono (by omega)).trans ((hb9.mono (by omega)).trans ((hb10.mono (by omega)).trans ((hb11.mono (by omega)).trans (hb12.mono (by omega))))))))
  have h12 : w12.heap[w4.heap.size]? = some (.cells #[.int .i64 4, .int .i64 0, .slice A 1 c, .int .i64 4] 31) := by
    have i5 := hb5.size; have i6 := hb6.size; have i7 := hb7.size; have i8 := hb8.size; have i9 := hb9.size; have i10 := hb10.size; have i11 := hb11.size
    exact (hb12.block _ (by omega)).trans ((hb11.block _ (by omega)).trans ((hb10.block _ (by omega)).trans ((hb9.block _ (by omega)).trans ((hb8.block _ (by omega)).trans ((hb7.block _ (by omega)).trans ((hb6.block _ (by omega)).trans h50))))))
  have hs12 : w4.heap.size < w12.heap.size := (Array.getElem?_eq_some_iff.1 h12).1
  have hR2 := run_ready (hr4.below hb412) hd (by decide) (inp := []) (Ai := none) (ci := 0) (ints_nil _ _) (Nat.le_refl _) 99
  rw [know2] at hR2
  clear hb5 h51 h50 hsz5 ha hb6 hf hb7 hb8 h80 hsz8 hf8 hbb hb9 hg hb10 hf10 hb11 h110 hsz11 hf11 hg11 hd hb12 h04 k0 k1 k2 k3
  go_wp2_with fail
  refine hR2.mono ?_
  rintro e w13 ⟨v, B, d, rfl, rfl, hE2, hb13, _⟩
  obtain ⟨B', d', hBeq, hi2⟩ := hE2
  simp only [Value.agg.injEq, Array.mk.injEq, List.cons.injEq, Value.slice.injEq, true_and, and_true] at hBeq
  obtain ⟨rfl, rfl⟩ := hBeq
  have hb413 : Below w4.heap.size w4 w13 := hb412.trans (hb13.mono (Nat.le_of_lt hs12))
  have h13 : w13.heap[w4.heap.size]? = some (.cells #[.int .i64 4, .int .i64 0, .slice A 1 c, .int .i64 4] 31) := (hb13.block _ hs12).trans h12
  have hs13 : w4.heap.size < w13.heap.size := (Array.getElem?_eq_some_iff.1 h13).1
  have m0 : w13.cell? ⟨w4.heap.size, 0, none⟩ = some (.int .i64 4) := by simp [World.cell?, h13]
  have m2 : w13.cell? ⟨w4.heap.size, 2, none⟩ = some (.slice A 1 c) := by simp [World.cell?, h13]
  have m3 : w13.cell? ⟨w4.heap.size, 3, none⟩ = some (.int .i64 4) := by simp [World.cell?, h13]
  have HI1 := Lib.hid (show IntsIn w13.heap.size w13 A [7] from (hi1.below hb413).mono (Nat.le_of_lt hs13))
  have HI2 := Lib.hid (show IntsIn w13.heap.size w13 B [7] from hi2)
  have HB13 := Lib.hid (hbw4.trans (hb413.mono (Nat.le_of_lt s4)))
  clear hR2 h12 hb412 hb13 hb413 h13 hi1 hi2 hr hr4 hbw4
  have hb14 : Below w13.heap.size w13 ((w13.alloc (.cells #[.int .i64 1, .int .i64 0, .slice B 1 d, .int .i64 7] 31)).alloc (.cells #[.int .i64 7] 3)) := ((Below.refl _ _).alloc (Nat.le_refl _) _).alloc (by simp) _
  have h14 : ((w13.alloc (.cells #[.int .i64 1, .int .i64 0, .slice B 1 d, .int .i64 7] 31)).alloc (.cells #[.int .i64 7] 3)).cell? ⟨w13.heap.size + 1, 0, none⟩ = some (.int .i64 7) := by
    rw [World.cell?_alloc_at _ _ _ _ (by simp)]; rfl
  have h140 : ((w13.alloc (.cells #[.int .i64 1, .int .i64 0, .slice B 1 d, .int .i64 7] 31)).alloc (.cells #[.int .i64 7] 3)).heap[w13.heap.size]? = some (.cells #[.int .i64 1, .int .i64 0, .slice B 1 d, .int .i64 7] 31) :=
    (((Below.refl _ _).alloc (Nat.le_refl _) _ : Below (w13.alloc (.cells #[.int .i64 1, .int .i64 0, .slice B 1 d, .int .i64 7] 31)).heap.size _ _).block w13.heap.size (by simp)).trans (World.alloc_heap_new w13 _)
  have S1 := Lib.hid (sameInts_any (c := c) (c' := 1) _ ((HI1.out.below hb14).mono hb14.size) (ints_seven h14))
  have m14 := cell_behind hb14 m3
  have hb14' := Lib.hid hb14
  go_wp2_with fail
  have hs14 : w13.heap.size + 2 = ((w13.alloc (.cells #[.int .i64 1, .int .i64 0, .slice B 1 d, .int .i64 7] 31)).alloc (.cells #[.int .i64 7] 3)).heap.size := by simp
  generalize (w13.alloc (.cells #[.int .i64 1, .int .i64 0, .slice B 1 d, .int .i64 7] 31)).alloc (.cells #[.int .i64 7] 3) = w14 at *
  refine S1.out.mono ?_
  rintro e w15 ⟨rfl, n1, rfl⟩
  have r0 : w14.cell? ⟨w13.heap.size, 0, none⟩ = some (.int .i64 1) := by simp [World.cell?, h140]
  have r2 : w14.cell? ⟨w13.heap.size, 2, none⟩ = some (.slice B 1 d) := by simp [World.cell?, h140]
  have r3 : w14.cell? ⟨w13.heap.size, 3, none⟩ = some (.int .i64 7) := by simp [World.cell?, h140]
  have hl14 : w13.heap.size < w14.heap.size := by omega
  clear hb14 h14 h140 m0 m2 m3
  go_wp2_with fail
  have hb16 : Below w14.heap.size w14 ((w14.drewN n1).alloc (.cells #[.int .i64 7] 3)) := (below_drewN (Below.refl _ _) _).alloc (Nat.le_refl _) _
  have h16 : ((w14.drewN n1).alloc (.cells #[.int .i64 7] 3)).cell? ⟨w14.heap.size, 0, none⟩ = some (.int .i64 7) := by
    show ((w14.drewN n1).alloc (.cells #[.int .i64 7] 3)).cell? ⟨(w14.drewN n1).heap.size, 0, none⟩ = _
    rw [World.cell?_alloc_at _ _ _ _ rfl]; rfl
  have S2 := Lib.hid (sameInts_any (c := d) (c' := 1) _ ((((HI2.out.below hb14'.out).mono hb14'.out.size).below hb16).mono hb16.size) (ints_seven h16))
  refine S2.out.mono ?_
  rintro e w17 ⟨rfl, n2, rfl⟩
  have hb16' := Lib.hid hb16
  have r3' := cell_behind hb16 r3
  clear hb16 h16
  go_wp2_with fail
  go_ret
  refine ⟨rfl, ?_⟩
  have hA := HB13.out
  have hBb := hA.trans (hb14'.out.mono hA.size)
  exact below_drewN (hBb.trans (hb16'.out.mono hBb.size)) _
end Go.Proofs.YtnolhcdfknjncaaDoor

/-
  What the claims' frames share: what the listed table holds, the arguments opened.
-/
set_option linter.unusedVariables false
set_option linter.unusedSimpArgs false
namespace Go.Proofs.YtnolhcdfknjncaaDoor
open Go.ChangeShapes Go.WideShapes Go.RowKit

theorem own : ownKnob Tryd.prog.godebug = none := by kernel_rfl
theorem gKids : Tryd.prog.globalNamed "camlet/core.kids" = some 0 := by kernel_rfl
theorem gKidsType : (Tryd.prog.globals[0]?).map (·.type) = some 142 := by kernel_rfl
theorem cellsKids : Tryd.prog.cellsOf 142 = 11 := by kernel_rfl

set_option maxRecDepth 100000 in
theorem table {W : World} (h : laidMetH Tryd.prog [("camlet/core.kids", Rows.laid_camlet_core_kids)] W) : Lib.TabIs Tryd.prog W "camlet/core.kids" .i64 [0, 0, 0, 1, 2, 2, -1, -1, 1, -1, -1] :=
  Lib.tabIs_of_head (rest := []) gKids gKidsType Tryd.underlying142 Tryd.underlying3 cellsInt cellsKids h
set_option maxRecDepth 100000 in
theorem ready_of_laid {W : World} (h : laidMetH Tryd.prog [("camlet/core.kids", Rows.laid_camlet_core_kids)] W) : Ready W := by
  have ht := table h
  refine ⟨fun i hi => ?_, World.block_lt_of_cell? _ _ (ht.cell gKids 0 (by decide))⟩
  have := ht.cell gKids i hi
  rw [this]
  have hall : ∀ i < 11, ([0, 0, 0, 1, 2, 2, -1, -1, 1, -1, -1] : List Int).getD i 0 = (kidsL[i]?.getD 0) := by decide
  rw [hall i hi]

set_option maxRecDepth 100000
section
variable {H : Type} {enc : TypeId × Value → H} {W : World}
set_option maxRecDepth 100000 in
theorem open_core {r : Reach} {b0 : Nat} {v : Value} {d : DataW H} {ps : List MemPlace} (hval : Value.okWide Tryd.prog W r b0 26 v) (hd : DataW.Trod enc Tryd.prog W 0 (fun _ => true) true 26 v d ps) (hb : Rows.uptoBulk d ≤ 1048576) :
    ∃ t cs, v = .agg cs ∧ CoreIn W.heap.size W t cs ∧ t.hgt ≤ 1048576 := by
  obtain ⟨cs, rfl, _⟩ := okWide_struct Tryd.underlying26 hval
  obtain ⟨fuel, hf⟩ := hd
  obtain ⟨t, v0, v1, v2, v3, hcs, hin, hh⟩ := core_of_trod fuel _ _ hf hb
  obtain rfl : cs = #[v0, v1, v2, v3] := by
    have : cs.toList = [v0, v1, v2, v3] := by simpa [Value.cells] using hcs
    cases cs; simp_all
  exact ⟨t, _, rfl, hin, Nat.le_trans hh hb⟩
set_option maxRecDepth 100000 in
theorem open_intsV {r : Reach} {b0 : Nat} {v : Value} {d : DataW H} {ps : List MemPlace} (hval : Value.okWide Tryd.prog W r b0 23 v) (hd : DataW.Trod enc Tryd.prog W 0 (fun _ => true) true 23 v d ps) (hb : Rows.uptoBulk d ≤ 1048576) :
    ∃ (A : Option Addr) (cap : Nat) (ks : List Int), v = .slice A ks.length cap ∧ IntsIn W.heap.size W A ks ∧ ks.length ≤ cap ∧ ks.length ≤ 1048576 := by
  obtain ⟨a, len, cap, rfl⟩ := okWide_slice Tryd.underlying23 hval
  obtain ⟨fuel, hf⟩ := hd
  exact ints_of_trod (c := .slice a len cap) (by simpa [Value.cells] using hf) hb
end
theorem bound {H : Type} {l : List (DataW H)} (hk : Rows.uptoSmall H l = true) : Rows.uptoBulkAll l ≤ 1048576 := by
  simpa [Rows.uptoSmall] using hk

/-- a world for the witness -/
noncomputable def laidWorld (os : Os) : World :=
  { World.holding Tryd.prog os ⟨#[], #[], []⟩ with heap := (World.holding Tryd.prog os ⟨#[], #[], []⟩).heap.modify 0 fun
      | .cells _ t frozen => .cells #[.int .i64 0, .int .i64 0, .int .i64 0, .int .i64 1, .int .i64 2, .int .i64 2, .int .i64 (-1), .int .i64 (-1), .int .i64 1, .int .i64 (-1), .int .i64 (-1)] t frozen
      | o => o }
end Go.Proofs.YtnolhcdfknjncaaDoor
