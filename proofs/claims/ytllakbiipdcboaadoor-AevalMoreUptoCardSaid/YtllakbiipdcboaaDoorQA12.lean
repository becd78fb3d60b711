/-
  4 texts of this seat in one: PA4 PL PA5 PA6.
-/
import Derived.Test.YtllakbiipdcboaaDoorQA11
import Derived.Lib.SlicesCompact
import Derived.Sort.Grow
import Derived.Shelf.Sort.Plain
import Derived.Shelf.Slices.CompactI
import Derived.Test.YtllakbiipdcboaaDoorProg
/-
  anf: functions; lists that are sorted and cut.
-/
set_option linter.unusedVariables false
set_option linter.unusedSimpArgs false
namespace Go.Proofs.YtllakbiipdcboaaDoor
open Go.RowKit

/-! ### plain laws -/
theorem keeps_iff (zs : List Int) {j : Nat} (hj : j < zs.length) : Lib.keeps zs.toArray j = true ↔ (j = 0 ∨ nth zs j ≠ nth zs (j - 1)) := by
  have h1 : zs.toArray[j]! = nth zs j := by rw [nth_eq zs hj]; simp [hj]
  have h2 : zs.toArray[j - 1]! = nth zs (j - 1) := by rw [nth_eq zs (by omega : j - 1 < zs.length)]; simp [show j - 1 < zs.length by omega]
  simp [Lib.keeps, h1, h2]
/-- of a sorted list nothing is cut exactly if all elements differ -/
theorem compact_full (zs : List Int) (hs : zs.Pairwise (· ≤ ·)) : (Lib.compact zs).length = zs.length ↔ zs.Nodup := by
  have h1 : (Lib.compact zs).length = ((List.range zs.length).filter (Lib.keeps zs.toArray)).length := by simp [Lib.compact, Lib.compactUpTo]
  have h2 : ((List.range zs.length).filter (Lib.keeps zs.toArray)).length = zs.length ↔ ∀ j, j < zs.length → Lib.keeps zs.toArray j = true := by
    have h := List.length_filter_eq_length_iff (l := List.range zs.length) (p := Lib.keeps zs.toArray)
    rw [List.length_range] at h
    rw [h]
    simp
  rw [h1, h2]
  rw [List.pairwise_iff_getElem] at hs
  constructor
  · intro h
    rw [List.Nodup, List.pairwise_iff_getElem]
    intro i j hi hj hij
    have h3 := (keeps_iff zs hj).1 (h j hj)
    rw [nth_eq zs hj, nth_eq zs (by omega : j - 1 < zs.length)] at h3
    have h4 := hs (j - 1) j (by omega) hj (by omega)
    have h5 : zs[i] ≤ zs[j - 1] := by
      by_cases h6 : i = j - 1
      · subst h6; exact Int.le_refl _
      · exact hs i (j - 1) hi (by omega) (by omega)
    rcases h3 with h3 | h3
    · omega
    · omega
  · intro h j hj
    rw [keeps_iff zs hj]
    by_cases h0 : j = 0
    · exact .inl h0
    · refine .inr ?_
      rw [nth_eq zs hj, nth_eq zs (by omega : j - 1 < zs.length)]
      rw [List.Nodup, List.pairwise_iff_getElem] at h
      exact fun e => h (j - 1) j (by omega) hj (by omega) e.symm
theorem sorted_le (l : List Int) : (l.mergeSort fun x y => decide (x ≤ y)).Pairwise (· ≤ ·) := by
  have h := List.pairwise_mergeSort (le := fun x y : Int => decide (x ≤ y)) (fun a b c h1 h2 => by simp at *; omega) (fun a b => by simp; omega) l
  exact h.imp (fun h => by simpa using h)
theorem sorted_full (l : List Int) : (Lib.compact (l.mergeSort fun x y => decide (x ≤ y))).length = l.length ↔ l.Nodup := by
  have hp := List.mergeSort_perm l (fun x y => decide (x ≤ y))
  rw [← hp.length_eq, compact_full _ (sorted_le l), hp.nodup_iff]
theorem compact_le (zs : List Int) : (Lib.compact zs).length ≤ zs.length := by
  simp only [Lib.compact, Lib.compactUpTo, List.length_map]
  have := List.length_filter_le (Lib.keeps zs.toArray) (List.range zs.length)
  simpa using this
theorem evensA_len : ∀ (ks : List Int), (evensA ks).length = (ks.length + 1) / 2
  | [] => rfl
  | [x] => by simp [evensA]
  | x :: y :: ks => by
    simp only [evensA, List.length_cons, evensA_len ks]
    omega
theorem evensA_get : ∀ (ks : List Int) (j : Nat), 2 * j < ks.length → (evensA ks)[j]? = some (nth ks (2 * j))
  | [], j, h => by simp at h
  | [x], j, h => by
    obtain rfl : j = 0 := by simp at h; omega
    simp [evensA, nth]
  | x :: y :: ks, 0, h => by simp [evensA, nth]
  | x :: y :: ks, j + 1, h => by
    have h1 := evensA_get ks j (by simp at h; omega)
    simp only [evensA, List.getElem?_cons_succ, h1, nth]
    simp [show 2 * (j + 1) = 2 * j + 1 + 1 by omega]
/-- what a sort leaves behind -/
theorem below_sorted (w : World) (B q blk off : Nat) (d : Array Int) (os : Array Obj) (hB : B ≤ blk) (hs : B ≤ w.heap.size) : Below B w (Go.Sort.grow (Go.Sort.putRow (Value.int .i64) (Go.Sort.ahead w q) blk off d) os) := by
  have hz : (Go.Sort.putRow (Value.int .i64) (Go.Sort.ahead w q) blk off d).heap.size = w.heap.size := by simp [Go.Sort.putRow, Go.Sort.mapBlock, Go.Sort.ahead]
  refine ⟨rfl, rfl, rfl, ?_, fun k hk => ?_⟩
  · show w.heap.size ≤ (_ ++ os).size
    rw [Array.size_append, hz]
    omega
  · have h1 : blk ≠ k := by omega
    rw [Go.Sort.heap_grow_old _ _ (by rw [hz]; omega)]
    simp [Go.Sort.putRow, Go.Sort.mapBlock, Go.Sort.ahead, Array.getElem?_modify, h1]
theorem below_put (w : World) (B q blk off : Nat) (d : Array Int) (hB : B ≤ blk) (hs : B ≤ w.heap.size) : Below B w (Go.Sort.putRow (Value.int .i64) (Go.Sort.ahead w q) blk off d) := by
  have h := below_sorted w B q blk off d #[] hB hs
  rw [show Go.Sort.grow (Go.Sort.putRow (Value.int .i64) (Go.Sort.ahead w q) blk off d) #[] = Go.Sort.putRow (Value.int .i64) (Go.Sort.ahead w q) blk off d from by unfold Go.Sort.grow; rw [Array.append_empty]] at h
  exact h

/-! ### the walk -/
theorem infoI : (Tryd.prog.info? 3).map (fun i => (i.zero, i.size, i.bytes)) = some (some (.int .i64 0), 1, 8) := by kernel_rfl
theorem undI : Tryd.prog.underlying 27 = some (.slice 3) := by kernel_rfl
set_option maxRecDepth 100000 in
set_option maxHeartbeats 2000000 in
theorem functions_any (Ak : Option Addr) (ck : Nat) (ks : List Int) (w : World) (hk : IntsIn w.heap.size w Ak ks) (hkc : ks.length ≤ ck) :
    Calls Tryd.prog 48 #[.slice Ak ks.length ck] w fun e w' => ∃ rv, e = .returned rv ∧ w'.ownsRow w.heap.size 3 1 rv (evensA ks).length ((evensA ks).map (Value.int .i64)) ∧ Below w.heap.size w w' := by
  have HK := Lib.hid (fun (V : World) (hV : Below w.heap.size w V) (j : Nat) (hj : j < ks.length) => (show ∃ b o, Ak = some ⟨b, o, none⟩ ∧ V.cell? ⟨b, o + j, none⟩ = some (.int .i64 (nth ks j)) from by
    obtain ⟨b, o, h1, h2, h3⟩ := hk.at_ (by omega)
    exact ⟨b, o, h1, (hV.cell (p := ⟨_, _, none⟩) h2).trans (h3 j hj)⟩))
  obtain ⟨i0, hinf, hz0, hz1, hz2⟩ := info_parts infoI
  have hl := evensA_len ks
  have HG := Lib.hid (evensA_get ks)
  have h64 := hk.1
  clear hk
  obtain ⟨L, hL⟩ : ∃ L, ks.length = L := ⟨_, rfl⟩
  rw [hL] at hkc HK hl HG h64 ⊢
  clear hL
  obtain ⟨G, hG⟩ : ∃ G, evensA ks = G := ⟨_, rfl⟩
  rw [hG] at hl HG ⊢
  clear hG
  obtain ⟨M, hM⟩ : ∃ M, G.length = M := ⟨_, rfl⟩
  have HM := Lib.hid hM
  rw [hM] at hl ⊢
  have hl1 : 2 * M ≤ L + 1 := by omega
  have hl2 : L ≤ 2 * M := by omega
  clear hM hl
  go_enter Tryd.func48, Tryd.ntmps48
  go_wp2_with fail
  go_loopw [3, 4] (fun rv iv wr => ∃ j : Nat, j ≤ M ∧ iv = .int .i64 (2 * (j : Int)) ∧ Hid (wr.ownsRow w.heap.size 3 1 rv j ((G.take j).map (Value.int .i64))) ∧ Hid (Below w.heap.size w wr)) (fun _ iv _ => 2 * M + 3 - (intOf iv).toNat)
  case atStart => exact ⟨0, by omega, rfl, Lib.hid ⟨by simp, .inl ⟨rfl, rfl⟩⟩, Lib.hid (Below.refl _ _)⟩
  case round =>
    obtain ⟨j, hj, rfl, HO, HW⟩ := hrel
    by_cases hlt : j < M
    · have hj1 : 2 * j < L := by omega
      obtain ⟨b, o, rfl, qk⟩ := HK.out wr HW.out (2 * j) hj1
      have e1 : (0 : Int) ≤ 2 * (j : Int) := by omega
      have e2 : 2 * (j : Int) < (L : Int) := by omega
      have e3 : (2 * (j : Int)).toNat = 2 * j := by omega
      have e4 : IntKind.i64.wrap (2 * (j : Int) + 2) = 2 * (j : Int) + 2 := by rw [IntKind.wrap_i64]; omega
      have e5 : (L : Int) ≤ (ck : Int) := by omega
      have hml : j + 1 ≤ maxLen := by unfold maxLen; omega
      have HGJ := Lib.hid (HG.out j hj1)
      have hrow := Lib.hid (show (wr.alloc (.cells #[.int .i64 (nth ks (2 * j))] 3)).ownsRow w.heap.size 3 1 u3 j ((G.take j).map (Value.int .i64)) from HO.out.alloc _)
      have hws := HW.out.size
      go_wp2_with (at_builtin; refine wpList_append_own_at _ rfl _ _ 27 rfl w.heap.size 3 i0 (.int .i64 0) 1 8 undI hinf hz0 hz1 hz2 rfl (by decide) _ _ _ rfl hrow.out ⟨wr.heap.size, 0, none⟩ 1 1 [.int .i64 (nth ks (2 * j))] rfl rfl (cell_one_new _ _ _) (by simp [Value.oneCell']) hml (by omega) (by rw [World.size_alloc]; omega) ?_; intro v' w1 hown' hgrow _ hat)
      have hgrow' := hgrow
      change World.grownBy _ w1 u3.ownBlock at hgrow'
      have hb1 : Below w.heap.size w (wr.alloc (.cells #[.int .i64 (nth ks (2 * j))] 3)) := HW.out.alloc hws _
      have HW2 := Lib.hid (hb1.grown hgrow' hb1.size (fun q hq => (HO.out.lt q hq).1))
      have HO2 := Lib.hid (show w1.ownsRow w.heap.size 3 1 v' (j + 1) ((G.take (j + 1)).map (Value.int .i64)) from by
        have he : G.take (j + 1) = G.take j ++ [nth ks (2 * j)] := by rw [List.take_add_one, HGJ.out]; rfl
        rw [he, List.map_append]
        exact hown')
      clear hgrow hgrow' hat hown' hb1
      go_roundw
      case rel => exact ⟨j + 1, by omega, by go_num, HO2, HW2⟩
      case measure => simp [intOf]; omega
    · have hjM : j = M := by omega
      have e2 : ¬ 2 * (j : Int) < (L : Int) := by omega
      have ho := HO.out
      rw [List.take_of_length_le (by rw [HM.out]; omega)] at ho
      have HE := Lib.hid (show wr.ownsRow w.heap.size 3 1 u3 M (G.map (Value.int .i64)) ∧ Below w.heap.size w wr from ⟨by rw [← hjM]; exact ho, HW.out⟩)
      have HSH : ∃ A n c, u3 = .slice A n c := by
        rcases ho.2 with ⟨rfl, _⟩ | ⟨g, cap, cur, rfl, _⟩ <;> exact ⟨_, _, _, rfl⟩
      obtain ⟨A, n', c', rfl⟩ := HSH
      clear ho
      go_wp2_with fail
      go_ret
      exact ⟨_, rfl, HE.out.1, HE.out.2⟩
end Go.Proofs.YtllakbiipdcboaaDoor

/-
  The library's contracts of sorting and cutting ints, laid at this program (written by the kit's tool).
-/
namespace Go.Proofs.YtllakbiipdcboaaDoor
open Go.Shelf
def lays189_ren : Go.Shelf.Ren := ⟨fun | 189 => 49 | 125 => 57 | 257 => 56 | 128 => 70 | 129 => 71 | 294 => 61 | 295 => 62 | 296 => 63 | 297 => 64 | 298 => 65 | 299 => 66 | 216 => 67 | 300 => 68 | 301 => 69 | 328 => 84 | 329 => 85 | 330 => 86 | 331 => 87 | 332 => 88 | 215 => 89 | 343 => 90 | n => n, fun | 28 => 27 | 3 => 3 | 46 => 103 | 0 => 0 | 51 => 102 | 53 => 139 | 4 => 4 | 183 => 130 | 182 => 129 | 131 => 135 | 5 => 5 | 9 => 9 | 218 => 142 | 222 => 146 | 228 => 148 | 229 => 149 | n => n, fun | n => n⟩
theorem lays189 : Go.Proofs.Lays.n189 Tryd.prog lays189_ren := {
  mixed := by kernel_rfl
  f125 := Tryd.func57.trans (congrArg some (by kernel_rfl))
  f128 := Tryd.func70.trans (congrArg some (by kernel_rfl))
  f129 := Tryd.func71.trans (congrArg some (by kernel_rfl))
  f189 := Tryd.func49.trans (congrArg some (by kernel_rfl))
  f215 := Tryd.func89.trans (congrArg some (by kernel_rfl))
  f216 := Tryd.func67.trans (congrArg some (by kernel_rfl))
  f257 := Tryd.func56.trans (congrArg some (by kernel_rfl))
  f294 := Tryd.func61.trans (congrArg some (by kernel_rfl))
  f295 := Tryd.func62.trans (congrArg some (by kernel_rfl))
  f296 := Tryd.func63.trans (congrArg some (by kernel_rfl))
  f297 := Tryd.func64.trans (congrArg some (by kernel_rfl))
  f298 := Tryd.func65.trans (congrArg some (by kernel_rfl))
  f299 := Tryd.func66.trans (congrArg some (by kernel_rfl))
  f300 := Tryd.func68.trans (congrArg some (by kernel_rfl))
  f301 := Tryd.func69.trans (congrArg some (by kernel_rfl))
  f328 := Tryd.func84.trans (congrArg some (by kernel_rfl))
  f329 := Tryd.func85.trans (congrArg some (by kernel_rfl))
  f330 := Tryd.func86.trans (congrArg some (by kernel_rfl))
  f331 := Tryd.func87.trans (congrArg some (by kernel_rfl))
  f332 := Tryd.func88.trans (congrArg some (by kernel_rfl))
  f343 := Tryd.func90.trans (congrArg some (by kernel_rfl))
  t0 := Tryd.underlying0
  a0 := Tryd.isAgg0
  z0 := Tryd.sizeOf0
  v0 := Tryd.zeroValue0
  t3 := Tryd.underlying3
  a3 := Tryd.isAgg3
  z3 := Tryd.sizeOf3
  v3 := Tryd.zeroValue3
  t4 := Tryd.underlying4
  a4 := Tryd.isAgg4
  z4 := Tryd.sizeOf4
  v4 := Tryd.zeroValue4
  t5 := Tryd.underlying5
  a5 := Tryd.isAgg5
  z5 := Tryd.sizeOf5
  v5 := Tryd.zeroValue5
  t9 := Tryd.underlying9
  a9 := Tryd.isAgg9
  z9 := Tryd.sizeOf9
  v9 := Tryd.zeroValue9
  t28 := Tryd.underlying27
  a28 := Tryd.isAgg27
  z28 := Tryd.sizeOf27
  v28 := Tryd.zeroValue27
  t46 := Tryd.underlying103
  a46 := Tryd.isAgg103
  z46 := Tryd.sizeOf103
  v46 := Tryd.zeroValue103
  t51 := Tryd.underlying102
  a51 := Tryd.isAgg102
  z51 := Tryd.sizeOf102
  v51 := Tryd.zeroValue102
  t53 := Tryd.underlying139
  a53 := Tryd.isAgg139
  z53 := Tryd.sizeOf139
  v53 := Tryd.zeroValue139
  t131 := Tryd.underlying135
  a131 := Tryd.isAgg135
  z131 := Tryd.sizeOf135
  v131 := Tryd.zeroValue135
  t182 := Tryd.underlying129
  a182 := Tryd.isAgg129
  z182 := Tryd.sizeOf129
  v182 := Tryd.zeroValue129
  t183 := Tryd.underlying130
  a183 := Tryd.isAgg130
  z183 := Tryd.sizeOf130
  v183 := Tryd.zeroValue130
  t218 := Tryd.underlying142
  a218 := Tryd.isAgg142
  z218 := Tryd.sizeOf142
  v218 := Tryd.zeroValue142
  t222 := Tryd.underlying146
  a222 := Tryd.isAgg146
  z222 := Tryd.sizeOf146
  v222 := Tryd.zeroValue146
  t228 := Tryd.underlying148
  a228 := Tryd.isAgg148
  z228 := Tryd.sizeOf148
  v228 := Tryd.zeroValue148
  t229 := Tryd.underlying149
  a229 := Tryd.isAgg149
  z229 := Tryd.sizeOf149
  v229 := Tryd.zeroValue149 }
open Go.Sort Go.RowKit in
theorem slices_Sort_int (blk off cap : Nat) (zs : List Int) (w : World) (hH : Holds (Value.int .i64) w blk off zs.toArray) (hblk : blk < w.heap.size) (hsz : zs.length < 4611686018427387904) :
    Calls Tryd.prog 49 #[.slice (some ⟨blk, off, none⟩) zs.length cap] w fun e w' =>
      e = .returned (.tuple #[]) ∧ ∃ n os, w' = grow (putRow (Value.int .i64) (Sort.ahead w n) blk off (zs.mergeSort fun x y => decide (x ≤ y)).toArray) os := Any.slices_Sort_int lays189 blk off cap zs w hH hblk hsz
def laysNm220_ren : Go.Shelf.Ren := ⟨fun | 20 => 52 | n => n, fun | 22 => 27 | 3 => 3 | 4 => 4 | 0 => 0 | n => n, fun | n => n⟩
theorem laysNm220 : Go.Proofs.Lays2.n20 Tryd.prog laysNm220_ren := {
  mixed := by kernel_rfl
  f20 := Tryd.func52.trans (congrArg some (by kernel_rfl))
  t0 := Tryd.underlying0
  a0 := Tryd.isAgg0
  z0 := Tryd.sizeOf0
  v0 := Tryd.zeroValue0
  t3 := Tryd.underlying3
  a3 := Tryd.isAgg3
  z3 := Tryd.sizeOf3
  v3 := Tryd.zeroValue3
  t4 := Tryd.underlying4
  a4 := Tryd.isAgg4
  z4 := Tryd.sizeOf4
  v4 := Tryd.zeroValue4
  t22 := Tryd.underlying27
  a22 := Tryd.isAgg27
  z22 := Tryd.sizeOf27
  v22 := Tryd.zeroValue27
  i3 := by kernel_rfl }
open Go.RowKit Go.Lib Go.Sort in
theorem slices_Compact_int (blk off cap : Nat) (zs : List Int) (w : World) (hH : Holds (Value.int .i64) w blk off zs.toArray) (hsz : zs.length ≤ 9223372036854775807) (hcap : zs.length ≤ cap) :
    Calls Tryd.prog 52 #[.slice (some ⟨blk, off, none⟩) zs.length cap] w fun e w' => e = .returned (.slice (some ⟨blk, off, none⟩) (Lib.compact zs).length cap) ∧ ∃ q, w' = putRow (Value.int .i64) (Sort.ahead w q) blk off (Lib.compact zs ++ List.replicate (zs.length - (Lib.compact zs).length) 0).toArray := Any.slices_Compact_int laysNm220 blk off cap zs w hH hsz hcap
end Go.Proofs.YtllakbiipdcboaaDoor

/-
  anf: keys.
-/
set_option linter.unusedVariables false
set_option linter.unusedSimpArgs false
namespace Go.Proofs.YtllakbiipdcboaaDoor
open Go.RowKit

/-- a bind's copy in memory -/
structure BindAt (W : World) (b : Nat) (x k n : Int) (Aa Ak Al : Option Addr) (na ca nk ck nb cb : Nat) : Prop where
  c0 : W.cell? ⟨b, 0, none⟩ = some (.int .i64 x)
  c1 : W.cell? ⟨b, 1, none⟩ = some (.int .i64 k)
  c2 : W.cell? ⟨b, 2, none⟩ = some (.int .i64 n)
  c3 : W.cell? ⟨b, 3, none⟩ = some (.slice Aa na ca)
  c4 : W.cell? ⟨b, 4, none⟩ = some (.slice Ak nk ck)
  c5 : W.cell? ⟨b, 5, none⟩ = some (.slice Al nb cb)
theorem BindAt.new (w : World) (x k n : Int) (Aa Ak Al : Option Addr) (na ca nk ck nb cb : Nat) : BindAt (w.alloc (.cells #[.int .i64 x, .int .i64 k, .int .i64 n, .slice Aa na ca, .slice Ak nk ck, .slice Al nb cb] 45)) w.heap.size x k n Aa Ak Al na ca nk ck nb cb :=
  ⟨by rw [World.cell?_alloc_at _ _ _ _ rfl]; rfl, by rw [World.cell?_alloc_at _ _ _ _ rfl]; rfl, by rw [World.cell?_alloc_at _ _ _ _ rfl]; rfl, by rw [World.cell?_alloc_at _ _ _ _ rfl]; rfl, by rw [World.cell?_alloc_at _ _ _ _ rfl]; rfl, by rw [World.cell?_alloc_at _ _ _ _ rfl]; rfl⟩
theorem BindAt.behind {W V : World} {b : Nat} {x k n : Int} {Aa Ak Al : Option Addr} {na ca nk ck nb cb : Nat} (h : BindAt W b x k n Aa Ak Al na ca nk ck nb cb) (hV : Below W.heap.size W V) : BindAt V b x k n Aa Ak Al na ca nk ck nb cb :=
  ⟨cell_behind hV h.c0, cell_behind hV h.c1, cell_behind hV h.c2, cell_behind hV h.c3, cell_behind hV h.c4, cell_behind hV h.c5⟩
theorem ints_row {w : World} {base n : Nat} {v : Value} {xs : List Int} (h : w.ownsRow base 3 1 v n (xs.map (Value.int .i64))) (hn : 0 < n) : ∃ g cap, v = .slice (some ⟨g, 0, none⟩) n cap ∧ base ≤ g ∧ g < w.heap.size ∧ n ≤ cap ∧ xs.length = n ∧ Go.Sort.Holds (Value.int .i64) w g 0 xs.toArray := by
  have hl : xs.length = n := by have := h.1; simpa using this
  rcases h.2 with ⟨rfl, h0⟩ | ⟨g, cap, cur, rfl, hlo, hg, hc, _⟩
  · omega
  · refine ⟨g, cap, rfl, hlo, (h.lt g rfl).2, hc, hl, fun j hj => ?_⟩
    have hj' : j < xs.length := by simpa using hj
    have h1 := World.ownsRow.cells h (g := g) rfl j (.int .i64 xs[j]) (by simp [hj'])
    have ha : (⟨g, 0, none⟩ : Addr).add j = ⟨g, 0 + j, none⟩ := by unfold Addr.add; split <;> simp_all
    rw [ha] at h1
    refine ⟨by rw [h1]; simp [hj'], ?_⟩
    simp [World.frozen?, hg]

section
variable (x n : Int) (Aa Al : Option Addr) (na ca nb cb : Nat) {Ak : Option Addr} {ck : Nat} {ks : List Int} {w : World}
/-- of other kinds nothing is asked -/
theorem keys_other (k : Int) (h7 : k ≠ 7) (h8 : k ≠ 8) : Calls Tryd.prog 40 #[.agg #[.int .i64 x, .int .i64 k, .int .i64 n, .slice Aa na ca, .slice Ak ks.length ck, .slice Al nb cb]] w fun e w' => e = .returned (.bool (keysA x k ks)) ∧ Below w.heap.size w w' := by
  obtain ⟨W0, hW0⟩ : ∃ W0, w.alloc (.cells #[.int .i64 x, .int .i64 k, .int .i64 n, .slice Aa na ca, .slice Ak ks.length ck, .slice Al nb cb] 45) = W0 := ⟨_, rfl⟩
  have hb0 : Below w.heap.size w W0 := by rw [← hW0]; exact (Below.refl _ _).alloc (Nat.le_refl _) _
  obtain ⟨c0, c1, c2, c3, c4, c5⟩ := (show BindAt W0 w.heap.size x k n Aa Ak Al na ca ks.length ck nb cb from by rw [← hW0]; exact BindAt.new _ _ _ _ _ _ _ _ _ _ _ _ _)
  have HO := Lib.hid (show keysA x k ks = true from by simp [keysA, h7, h8])
  have e7 : (k == 7) = false := by simpa using h7
  have e8 : (k == 8) = false := by simpa using h8
  have HB := Lib.hid hb0
  generalize ks.length = L at *
  clear h7 h8 hb0
  go_enter Tryd.func40, Tryd.ntmps40
  go_wp2_with fail
  go_ret
  exact ⟨ret_bool HO.out.symm, HB.out⟩
set_option maxRecDepth 100000 in
set_option maxHeartbeats 4000000 in
theorem keys_switch (hk : IntsIn w.heap.size w Ak ks) (hkc : ks.length ≤ ck) : Calls Tryd.prog 40 #[.agg #[.int .i64 x, .int .i64 8, .int .i64 n, .slice Aa na ca, .slice Ak ks.length ck, .slice Al nb cb]] w fun e w' => e = .returned (.bool (keysA x 8 ks)) ∧ Below w.heap.size w w' := by
  obtain ⟨W0, hW0⟩ : ∃ W0, w.alloc (.cells #[.int .i64 x, .int .i64 8, .int .i64 n, .slice Aa na ca, .slice Ak ks.length ck, .slice Al nb cb] 45) = W0 := ⟨_, rfl⟩
  have hb0 : Below w.heap.size w W0 := by rw [← hW0]; exact (Below.refl _ _).alloc (Nat.le_refl _) _
  obtain ⟨c0, c1, c2, c3, c4, c5⟩ := (show BindAt W0 w.heap.size x 8 n Aa Ak Al na ca ks.length ck nb cb from by rw [← hW0]; exact BindAt.new _ _ _ _ _ _ _ _ _ _ _ _ _)
  have HK := Lib.hid (fun (j : Nat) (hj : j < ks.length) => (show ∃ b o, Ak = some ⟨b, o, none⟩ ∧ W0.cell? ⟨b, o + j, none⟩ = some (.int .i64 (nth ks j)) ∧ (∀ i, i < ks.length → W0.cell? ⟨b, o + i, none⟩ = some (.int .i64 (nth ks i))) from by
    obtain ⟨b, o, h1, h2, h3⟩ := hk.at_ (by omega)
    exact ⟨b, o, h1, (hb0.cell (p := ⟨_, _, none⟩) h2).trans (h3 j hj), fun i hi => (hb0.cell (p := ⟨_, _, none⟩) h2).trans (h3 i hi)⟩))
  have h64 := hk.1
  have HB := Lib.hid hb0
  have hall : ∀ o, keysA x 8 ks = o → ((o = true ↔ ∀ i, i < ks.length → (wrap31 (nth ks i) = nth ks i ∧ (i = 0 ∨ nth ks (i - 1) < nth ks i)))) := by
    intro o ho
    rw [← ho]
    simp [keysA, risingB]
  obtain ⟨out, hout⟩ : ∃ o, keysA x 8 ks = o := ⟨_, rfl⟩
  have HO := Lib.hid (hall out hout)
  rw [hout]
  clear hk hb0 hall hout
  obtain ⟨L, hL⟩ : ∃ L, ks.length = L := ⟨_, rfl⟩
  rw [hL] at hkc HK h64 c4 hW0 HO ⊢
  clear hL
  go_enter Tryd.func40, Tryd.ntmps40
  go_wp2_with fail
  go_loopw [43] (fun iv wr => ∃ j : Nat, j ≤ L ∧ iv = .int .i64 (j : Int) ∧ W0 = wr ∧ Hid (∀ i, i < j → (wrap31 (nth ks i) = nth ks i ∧ (i = 0 ∨ nth ks (i - 1) < nth ks i)))) (fun iv _ => L + 1 - (intOf iv).toNat)
  case atStart => exact ⟨0, by omega, rfl, rfl, Lib.hid (fun i hi => by omega)⟩
  case round =>
    obtain ⟨j, hj, rfl, rfl, HA⟩ := hrel
    by_cases hlt : j < L
    · obtain ⟨b, o, rfl, qk, hall⟩ := HK.out j hlt
      have HALL := Lib.hid hall
      clear hall
      have e1 : (0 : Int) ≤ (j : Int) := by omega
      have e2 : (j : Int) < (L : Int) := by omega
      have e4 : IntKind.i64.wrap ((j : Int) + 1) = (j : Int) + 1 := by rw [IntKind.wrap_i64]; omega
      have e5 : (L : Int) ≤ (ck : Int) := by omega
      by_cases hw : wrap31 (nth ks j) = nth ks j
      · by_cases h0 : j = 0
        · have HA2 := Lib.hid (show ∀ i, i < j + 1 → (wrap31 (nth ks i) = nth ks i ∧ (i = 0 ∨ nth ks (i - 1) < nth ks i)) from fun i hi => by
            have hi0 : i = 0 := by omega
            rw [h0] at hw
            rw [hi0]
            exact ⟨hw, .inl rfl⟩)
          have e6 : ¬ (0 : Int) < (j : Int) := by omega
          have e7 : (wrap31 (nth ks j) != nth ks j) = false := by simp [hw]
          clear h0 hw
          go_wp2_with (go_at_call 35; refine (wrap_any _ _).mono ?_; rintro en w' ⟨rfl, rfl⟩)
          go_roundw
          case rel => exact ⟨j + 1, by omega, by go_num, (by first | rfl | trivial), HA2⟩
          case measure => simp [intOf]; omega
        · obtain ⟨q, rfl⟩ : ∃ q, j = q + 1 := ⟨j - 1, by omega⟩
          have qq := HALL.out q (by omega)
          have e6 : (0 : Int) < ((q + 1 : Nat) : Int) := by omega
          have e7 : IntKind.i64.wrap (((q + 1 : Nat) : Int) - 1) = (q : Int) := by rw [IntKind.wrap_i64]; omega
          have e8 : (0 : Int) ≤ (q : Int) := by omega
          have e9 : (q : Int) < (L : Int) := by omega
          have e10 : (wrap31 (nth ks (q + 1)) != nth ks (q + 1)) = false := by simp [hw]
          by_cases hge : nth ks (q + 1) ≤ nth ks q
          · have HF := Lib.hid (show out = false from by
              cases ho : out
              · rfl
              · have := (HO.out.1 ho (q + 1) hlt).2
                simp at this
                omega)
            obtain ⟨J, hJ⟩ : ∃ J : Int, ((q + 1 : Nat) : Int) = J := ⟨_, rfl⟩
            have hJn : J.toNat = q + 1 := by omega
            rw [hJ] at e1 e2 e4 e6 e7 ⊢
            have qk' : W0.cell? ⟨b, o + J.toNat, none⟩ = some (.int .i64 (nth ks (q + 1))) := by rw [hJn]; exact qk
            clear hJ hw
            go_wp2_with (go_at_call 35; refine (wrap_any _ _).mono ?_; rintro en w' ⟨rfl, rfl⟩)
            go_ret
            exact ⟨ret_bool HF.out.symm, HB.out⟩
          · have HA2 := Lib.hid (show ∀ i, i < q + 1 + 1 → (wrap31 (nth ks i) = nth ks i ∧ (i = 0 ∨ nth ks (i - 1) < nth ks i)) from fun i hi => by
              by_cases hij : i = q + 1
              · subst hij
                exact ⟨hw, .inr (by simp; omega)⟩
              · exact HA.out i (by omega))
            obtain ⟨J, hJ⟩ : ∃ J : Int, ((q + 1 : Nat) : Int) = J := ⟨_, rfl⟩
            have hJn : J.toNat = q + 1 := by omega
            rw [hJ] at e1 e2 e4 e6 e7 ⊢
            have qk' : W0.cell? ⟨b, o + J.toNat, none⟩ = some (.int .i64 (nth ks (q + 1))) := by rw [hJn]; exact qk
            have HJ := Lib.hid hJ
            clear hJ hw
            go_wp2_with (go_at_call 35; refine (wrap_any _ _).mono ?_; rintro en w' ⟨rfl, rfl⟩)
            go_roundw
            case rel => exact ⟨q + 1 + 1, by omega, by rw [← HJ.out]; go_num, (by first | rfl | trivial), HA2⟩
            case measure => have := HJ.out; simp [intOf]; omega
      · have HF := Lib.hid (show out = false from by
          cases ho : out
          · rfl
          · exact absurd (HO.out.1 ho j hlt).1 hw)
        have e7 : (wrap31 (nth ks j) != nth ks j) = true := by simpa using hw
        clear hw
        go_wp2_with (go_at_call 35; refine (wrap_any _ _).mono ?_; rintro en w' ⟨rfl, rfl⟩)
        go_ret
        exact ⟨ret_bool HF.out.symm, HB.out⟩
    · have e2 : ¬ (j : Int) < (L : Int) := by omega
      have HE := Lib.hid (show out = true from HO.out.2 (fun i hi => HA.out i (by omega)))
      go_wp2_with fail
      go_ret
      exact ⟨ret_bool HE.out.symm, HB.out⟩
end
end Go.Proofs.YtllakbiipdcboaaDoor

/-
  anf: keys where functions know one another.
-/
set_option linter.unusedVariables false
set_option linter.unusedSimpArgs false
namespace Go.Proofs.YtllakbiipdcboaaDoor
open Go.RowKit

section
variable (x n : Int) (Aa Al : Option Addr) (na ca nb cb : Nat) {Ak : Option Addr} {ck : Nat} {ks : List Int} {w : World}
set_option maxRecDepth 100000 in
set_option maxHeartbeats 4000000 in
theorem keys_fix (hk : IntsIn w.heap.size w Ak ks) (hkc : ks.length ≤ ck) {M : Nat} (hM : ks.length = 2 * M) (hM1 : 1 ≤ M) : Calls Tryd.prog 40 #[.agg #[.int .i64 x, .int .i64 7, .int .i64 n, .slice Aa na ca, .slice Ak ks.length ck, .slice Al nb cb]] w fun e w' => e = .returned (.bool (keysA x 7 ks)) ∧ Below w.heap.size w w' := by
  obtain ⟨W0, hW0⟩ : ∃ W0, w.alloc (.cells #[.int .i64 x, .int .i64 7, .int .i64 n, .slice Aa na ca, .slice Ak ks.length ck, .slice Al nb cb] 45) = W0 := ⟨_, rfl⟩
  have hb0 : Below w.heap.size w W0 := by rw [← hW0]; exact (Below.refl _ _).alloc (Nat.le_refl _) _
  have hR := (show BindAt W0 w.heap.size x 7 n Aa Ak Al na ca ks.length ck nb cb from by rw [← hW0]; exact BindAt.new _ _ _ _ _ _ _ _ _ _ _ _ _)
  have hk0 := (hk.below hb0).mono hb0.size
  have h64 := hk.1
  have HFU := Lib.hid (functions_any Ak ck ks W0 hk0 hkc)
  obtain ⟨bk, ok, rfl, hbk, hkk⟩ := hk.at_ (by omega)
  have hE : (evensA ks).length = M := by rw [evensA_len]; omega
  obtain ⟨E, hEE⟩ : ∃ E, evensA ks = E := ⟨_, rfl⟩
  rw [hEE] at HFU hE
  rw [hE] at HFU
  have hSl : (E.mergeSort fun x y => decide (x ≤ y)).length = M := by rw [List.length_mergeSort, hE]
  have hfull := sorted_full E
  have hcl := compact_le (E.mergeSort fun x y => decide (x ≤ y))
  rw [hSl] at hcl
  rw [hE] at hfull
  obtain ⟨S, hS⟩ : ∃ S, (E.mergeSort fun x y => decide (x ≤ y)) = S := ⟨_, rfl⟩
  obtain ⟨C, hC⟩ : ∃ C, (Lib.compact S).length = C := ⟨_, rfl⟩
  rw [hS] at hfull hcl hSl
  rw [hC] at hfull hcl
  have HR := Lib.hid (fun (V : World) (hV : Below W0.heap.size W0 V) => (show V.cell? ⟨w.heap.size, 0, none⟩ = some (.int .i64 x) ∧ V.cell? ⟨w.heap.size, 4, none⟩ = some (.slice (some ⟨bk, ok, none⟩) ks.length ck) ∧ V.cell? ⟨bk, ok, none⟩ = some (.int .i64 (nth ks 0)) from
    ⟨(hR.behind hV).c0, (hR.behind hV).c4, (hV.cell (p := ⟨_, _, none⟩) (Nat.lt_of_lt_of_le hbk hb0.size)).trans ((hb0.cell (p := ⟨_, _, none⟩) hbk).trans (hkk 0 (by omega)))⟩))
  have HCON := Lib.hid (fun (V : World) (hV : Below W0.heap.size W0 V) => (show Calls Tryd.prog 50 #[.slice (some ⟨bk, ok, none⟩) ks.length ck, .func (.func 51) #[] #[]] V fun e w' => e = .returned (.bool (ks.any fun k => !varB k)) ∧ V = w' from contains_ints ((hk0.below hV).mono hV.size) hkc))
  have HSO := Lib.hid (fun (g cap : Nat) (V : World) (hg : W0.heap.size ≤ g) (hgl : g < V.heap.size) (hV : Below W0.heap.size W0 V) (hh : Go.Sort.Holds (Value.int .i64) V g 0 E.toArray) => (show Calls Tryd.prog 49 #[.slice (some ⟨g, 0, none⟩) M cap] V fun e w' => e = .returned (.tuple #[]) ∧ Below W0.heap.size W0 w' ∧ Go.Sort.Holds (Value.int .i64) w' g 0 S.toArray from by
    have h := slices_Sort_int g 0 cap E V hh hgl (by rw [hE]; omega)
    rw [hE] at h
    refine h.mono fun e w' hh2 => ?_
    obtain ⟨rfl, q, os, rfl⟩ := hh2
    rw [hS]
    refine ⟨rfl, hV.trans (below_sorted V W0.heap.size q g 0 _ os hg hV.size), ?_⟩
    have hz : (Go.Sort.putRow (Value.int .i64) (Go.Sort.ahead V q) g 0 S.toArray).heap.size = V.heap.size := by simp [Go.Sort.putRow, Go.Sort.mapBlock, Go.Sort.ahead]
    exact Go.Sort.holds_grow _ _ _ _ _ _ (by rw [hz]; exact hgl) (Go.Sort.holds_putRow _ _ _ _ _ _ (Go.Sort.holds_ahead _ _ q _ _ _ hh) (by simp [hSl, hE]))))
  have HCO := Lib.hid (fun (g cap : Nat) (V : World) (hg : W0.heap.size ≤ g) (hc : M ≤ cap) (hV : Below W0.heap.size W0 V) (hh : Go.Sort.Holds (Value.int .i64) V g 0 S.toArray) => (show Calls Tryd.prog 52 #[.slice (some ⟨g, 0, none⟩) M cap] V fun e w' => e = .returned (.slice (some ⟨g, 0, none⟩) C cap) ∧ Below W0.heap.size W0 w' from by
    have h := slices_Compact_int g 0 cap S V hh (by rw [hSl]; omega) (by rw [hSl]; exact hc)
    rw [hSl] at h
    refine h.mono fun e w' hh2 => ?_
    obtain ⟨rfl, q, rfl⟩ := hh2
    rw [hC]
    exact ⟨rfl, hV.trans (below_put V W0.heap.size q g 0 _ hg hV.size)⟩))
  have HB := Lib.hid hb0
  have HO := Lib.hid (show keysA x 7 ks = (ks.all varB && (decide (C = M) && nth ks 0 == x)) from by
    have : decide (evensA ks).Nodup = decide (C = M) := by rw [hEE, decide_eq_decide]; exact hfull.symm
    simp [keysA, this])
  have hany : (ks.any fun k => !varB k) = !(ks.all varB) := by rw [List.all_eq_not_any_not, Bool.not_not]
  rw [hany] at HCON
  obtain ⟨c0, -, -, -, c4, -⟩ := hR
  have c1 := (show BindAt W0 w.heap.size x 7 n Aa (some ⟨bk, ok, none⟩) Al na ca ks.length ck nb cb from by rw [← hW0]; exact BindAt.new _ _ _ _ _ _ _ _ _ _ _ _ _).c1
  obtain ⟨out, hout⟩ : ∃ o, keysA x 7 ks = o := ⟨_, rfl⟩
  rw [hout] at HO ⊢
  clear hout hk hk0 hb0 hkk hfull hC hS hEE hany hE hSl
  obtain ⟨L, hL⟩ : ∃ L, ks.length = L := ⟨_, rfl⟩
  rw [hL] at hkc HR HCON h64 c4 hM hW0 HFU ⊢
  clear hL
  have hlt : (0 : Int) < (L : Int) := by omega
  have hltN : 0 < L := by omega
  have hlc : (L : Int) ≤ (ck : Int) := by omega
  have hquo : Int.tdiv (L : Int) 2 = (M : Int) := by rw [show (L : Int) = 2 * (M : Int) by omega]; exact Int.mul_tdiv_cancel_left _ (by decide)
  have hwr : IntKind.i64.wrap (M : Int) = (M : Int) := by rw [IntKind.wrap_i64]; omega
  have HM := Lib.hid hM
  clear hM
  generalize ks.all varB = va at *
  go_enter Tryd.func40, Tryd.ntmps40
  go_wp2_with fail
  refine HFU.out.mono ?_
  rintro en w1 ⟨rv, rfl, hown, hb1⟩
  obtain ⟨g, cap, rfl, hg0, hgl, hcap, hEl, hh⟩ := ints_row hown (by omega)
  have HSO1 := Lib.hid (HSO.out g cap w1 hg0 hgl hb1 hh)
  clear hown hh hEl HSO HFU hb1
  go_wp2_with fail
  refine HSO1.out.mono ?_
  rintro en w2 ⟨rfl, hb2, hh2⟩
  obtain ⟨r0, r4, rk⟩ := HR.out w2 hb2
  have HCON2 := Lib.hid (fun (V : World) (hV : Below w2.heap.size w2 V) => HCON.out V (hb2.trans (hV.mono hb2.size)))
  have HCO2 := Lib.hid (show (∀ V, V = w2 ∨ V = w2.drew → Calls Tryd.prog 52 #[.slice (some ⟨g, 0, none⟩) M cap] V fun e w' => e = .returned (.slice (some ⟨g, 0, none⟩) C cap) ∧ Below W0.heap.size W0 w') from fun V hV => by
    rcases hV with rfl | rfl
    · exact HCO.out g cap _ hg0 hcap hb2 hh2
    · exact HCO.out g cap _ hg0 hcap hb2.drew hh2)
  have HB2 := Lib.hid hb2
  have HE := Lib.hid (fun (V : World) (hV : Below W0.heap.size W0 V) => HB.out.trans (hV.mono HB.out.size))
  clear HSO1 HCON HCO hb2 hh2 c0 c1 c4
  cases va
  · have HF := Lib.hid (show out = false from HO.out)
    have HCON3 := Lib.hid (fun (V : World) (hV : Below w2.heap.size w2 V) => (show Calls Tryd.prog 50 #[.slice (some ⟨bk, ok, none⟩) L ck, .func (.func 51) #[] #[]] V fun e w' => e = .returned (.bool true) ∧ w' = V from (HCON2.out V hV).mono fun _ _ h => ⟨h.1, h.2.symm⟩))
    clear HCO2 HO HCON2 HM
    go_wp2_with fail
    go_quiet ((go_at_call 50; exact Calls.quiet_of_same (HCON3.out _ (by first | exact Below.refl _ _ | exact (Below.refl _ _).drew | exact below_drewN (Below.refl _ _) _))))
    go_wp2_with fail
    go_ret
    exact ⟨ret_bool HF.out.symm, HE.out _ (below_drewN HB2.out _)⟩
  have HCON3 := Lib.hid (fun (V : World) (hV : Below w2.heap.size w2 V) => (show Calls Tryd.prog 50 #[.slice (some ⟨bk, ok, none⟩) L ck, .func (.func 51) #[] #[]] V fun e w' => e = .returned (.bool false) ∧ V = w' from HCON2.out V hV))
  clear HCON2 HM
  have HS := Lib.hid (fun (V : World) (hV : Below W0.heap.size W0 V) => (show V.cell? ⟨w.heap.size, 0, none⟩ = some (.int .i64 x) ∧ V.cell? ⟨bk, ok, none⟩ = some (.int .i64 (nth ks 0)) from ⟨(HR.out V hV).1, (HR.out V hV).2.2⟩))
  by_cases hCM : C = M
  · subst hCM
    have e1 : ((C : Int) == (C : Int)) = true := by simp
    have HF := Lib.hid (show out = (nth ks 0 == x) from by rw [HO.out]; simp)
    clear HO HR
    generalize (nth ks 0) = k0 at *
    go_wp2_with fail
    go_region_law ((first
        | (go_simp; go_at_call 50; refine Calls.mono (HCON3.out _ (by first | exact Below.refl _ _ | exact (Below.refl _ _).drew)) ?_; rintro en w' ⟨rfl, rfl⟩)
        | (go_simp; go_at_call 52; refine Calls.mono (HCO2.out _ (by first | exact .inl rfl | exact .inr rfl)) ?_; rintro en w3 ⟨rfl, hb3⟩; obtain ⟨s0, s1⟩ := HS.out _ hb3)))
    all_goals
      go_wp2_with fail
      go_ret
      exact ⟨ret_bool HF.out.symm, HE.out _ (by first | exact hb3 | exact hb3.drew)⟩
  · have e1 : ((C : Int) == (M : Int)) = false := by simp; omega
    have HF := Lib.hid (show out = false from by rw [HO.out]; simp [hCM])
    clear HO HR hCM
    go_wp2_with fail
    refine wp_region_held_drew (S := fun V => Below W0.heap.size W0 V) (by kernel_rfl) HB2.out.drew (fun hHeld => ?_)
    refine wpAnyH_take (i := 0) (v := ?v0) rfl (by kernel_rfl) (by kernel_rfl) (by kernel_rfl) (fun _ _ _ h => h) (Or.inl ⟨by rfl, ?y0⟩) hHeld ?r0
    case y0 => (intro w_ hSw; go_simp; try with_reducible rfl)
    try simp only [List.getElem_toArray, List.getElem_cons_succ, List.getElem_cons_zero, Act.put, List.setIfInBounds_toArray, List.set_cons_zero, List.set_cons_succ]
    refine wpAnyH_ready (rs := [1]) (by kernel_rfl) (by simp) ?_
    refine AllReadyH.cons rfl (fun K hK => ?_) AllReadyH.nil
    go_simp
    go_wp2_with (go_at_call 50; refine Calls.mono (HCON3.out _ (Below.refl _ _).drew) ?_; rintro en w' ⟨rfl, rfl⟩)
    refine hK.out _ _ HB2.out.drew (fun hHeld => ?_)
    clear hK
    try simp only [List.getElem_toArray, List.getElem_cons_succ, List.getElem_cons_zero, Act.put, List.setIfInBounds_toArray, List.set_cons_zero, List.set_cons_succ]
    refine wpAnyH_take (i := 2) (v := ?v2) rfl (by kernel_rfl) (by kernel_rfl) (by kernel_rfl) (fun _ _ _ h => h) (Or.inl ⟨by rfl, ?y2⟩) hHeld ?r2
    case y2 => (intro w_ hSw; go_simp; try with_reducible rfl)
    try simp only [List.getElem_toArray, List.getElem_cons_succ, List.getElem_cons_zero, Act.put, List.setIfInBounds_toArray, List.set_cons_zero, List.set_cons_succ]
    refine wpAnyH_take (i := 3) (v := ?v3) rfl (by kernel_rfl) (by kernel_rfl) (by kernel_rfl) (fun _ _ _ h => h) (Or.inl ⟨by rfl, ?y3⟩) hHeld ?r3
    case y3 => (intro w_ hSw; go_simp; try with_reducible rfl)
    try simp only [List.getElem_toArray, List.getElem_cons_succ, List.getElem_cons_zero, Act.put, List.setIfInBounds_toArray, List.set_cons_zero, List.set_cons_succ]
    refine wpAnyH_take (i := 4) (v := ?v4) rfl (by kernel_rfl) (by kernel_rfl) (by kernel_rfl) (fun _ _ _ h => h) (Or.inl ⟨by rfl, ?y4⟩) hHeld ?r4
    case y4 => (intro w_ hSw; go_simp; try with_reducible rfl)
    try simp only [List.getElem_toArray, List.getElem_cons_succ, List.getElem_cons_zero, Act.put, List.setIfInBounds_toArray, List.set_cons_zero, List.set_cons_succ]
    refine wpAnyH_take (i := 7) (v := ?v7) rfl (by kernel_rfl) (by kernel_rfl) (by kernel_rfl) (fun _ _ _ h => h) (Or.inl ⟨by rfl, ?y7⟩) hHeld ?r7
    case y7 => (intro w_ hSw; go_simp; try with_reducible rfl)
    try simp only [List.getElem_toArray, List.getElem_cons_succ, List.getElem_cons_zero, Act.put, List.setIfInBounds_toArray, List.set_cons_zero, List.set_cons_succ]
    refine wpAnyH_take (i := 8) (v := ?v8) rfl (by kernel_rfl) (by kernel_rfl) (by kernel_rfl) (fun _ _ _ h => h) (Or.inl ⟨by rfl, ?y8⟩) hHeld ?r8
    case y8 => (intro w_ hSw; go_simp; try with_reducible rfl)
    try simp only [List.getElem_toArray, List.getElem_cons_succ, List.getElem_cons_zero, Act.put, List.setIfInBounds_toArray, List.set_cons_zero, List.set_cons_succ]
    refine wpAnyH_take (i := 9) (v := ?v9) rfl (by kernel_rfl) (by kernel_rfl) (by kernel_rfl) (fun _ _ _ h => h) (Or.inl ⟨by rfl, ?y9⟩) hHeld ?r9
    case y9 => (intro w_ hSw; go_simp; try with_reducible rfl)
    try simp only [List.getElem_toArray, List.getElem_cons_succ, List.getElem_cons_zero, Act.put, List.setIfInBounds_toArray, List.set_cons_zero, List.set_cons_succ]
    refine wpAnyH_ready (rs := [5]) (by kernel_rfl) (by simp) ?_
    refine AllReadyH.cons rfl (fun K hK => ?_) AllReadyH.nil
    go_simp
    go_wp2_with (go_at_call 52; refine Calls.mono (HCO2.out _ (.inr rfl)) ?_; rintro en w3 ⟨rfl, hb3⟩)
    refine hK.out _ _ hb3 (fun hHeld => ?_)
    clear hK
    try simp only [List.getElem_toArray, List.getElem_cons_succ, List.getElem_cons_zero, Act.put, List.setIfInBounds_toArray, List.set_cons_zero, List.set_cons_succ]
    refine wpAnyH_take (i := 6) (v := ?v6) rfl (by kernel_rfl) (by kernel_rfl) (by kernel_rfl) (fun _ _ _ h => h) (Or.inl ⟨by rfl, ?y6⟩) hHeld ?r6
    case y6 => (intro w_ hSw; go_simp; try with_reducible rfl)
    try simp only [List.getElem_toArray, List.getElem_cons_succ, List.getElem_cons_zero, Act.put, List.setIfInBounds_toArray, List.set_cons_zero, List.set_cons_succ]
    refine wpAnyH_take (i := 10) (v := ?v10) rfl (by kernel_rfl) (by kernel_rfl) (by kernel_rfl) (fun _ _ _ h => h) (Or.inl ⟨by rfl, ?y10⟩) hHeld ?r10
    case y10 => (intro w_ hSw; go_simp; try with_reducible rfl)
    try simp only [List.getElem_toArray, List.getElem_cons_succ, List.getElem_cons_zero, Act.put, List.setIfInBounds_toArray, List.set_cons_zero, List.set_cons_succ]
    refine wpAnyH_take (i := 11) (v := ?v11) rfl (by kernel_rfl) (by kernel_rfl) (by kernel_rfl) (fun _ _ _ h => h) (Or.inl ⟨by rfl, ?y11⟩) hHeld ?r11
    case y11 => (intro w_ hSw; go_simp; try with_reducible rfl)
    try simp only [List.getElem_toArray, List.getElem_cons_succ, List.getElem_cons_zero, Act.put, List.setIfInBounds_toArray, List.set_cons_zero, List.set_cons_succ]
    refine wpAnyH_take (i := 12) (v := ?v12) rfl (by kernel_rfl) (by kernel_rfl) (by kernel_rfl) (fun _ _ _ h => h) (Or.inl ⟨by rfl, ?y12⟩) hHeld ?r12
    case y12 => (intro w_ hSw; go_simp; try with_reducible rfl)
    try simp only [List.getElem_toArray, List.getElem_cons_succ, List.getElem_cons_zero, Act.put, List.setIfInBounds_toArray, List.set_cons_zero, List.set_cons_succ]
    refine wpAnyH_take (i := 13) (v := undef) rfl (by kernel_rfl) (by kernel_rfl) (by kernel_rfl) (fun _ _ _ h => h) (Or.inr ⟨by rfl, rfl⟩) hHeld ?_
    try simp only [List.getElem_toArray, List.getElem_cons_succ, List.getElem_cons_zero, Act.put, List.setIfInBounds_toArray, List.set_cons_zero, List.set_cons_succ]
    refine wpAnyH_take (i := 14) (v := undef) rfl (by kernel_rfl) (by kernel_rfl) (by kernel_rfl) (fun _ _ _ h => h) (Or.inr ⟨by rfl, rfl⟩) hHeld ?_
    try simp only [List.getElem_toArray, List.getElem_cons_succ, List.getElem_cons_zero, Act.put, List.setIfInBounds_toArray, List.set_cons_zero, List.set_cons_succ]
    refine wpAnyH_take (i := 15) (v := undef) rfl (by kernel_rfl) (by kernel_rfl) (by kernel_rfl) (fun _ _ _ h => h) (Or.inr ⟨by rfl, rfl⟩) hHeld ?_
    try simp only [List.getElem_toArray, List.getElem_cons_succ, List.getElem_cons_zero, Act.put, List.setIfInBounds_toArray, List.set_cons_zero, List.set_cons_succ]
    refine wpAnyH_take (i := 16) (v := undef) rfl (by kernel_rfl) (by kernel_rfl) (by kernel_rfl) (fun _ _ _ h => h) (Or.inr ⟨by rfl, rfl⟩) hHeld ?_
    try simp only [List.getElem_toArray, List.getElem_cons_succ, List.getElem_cons_zero, Act.put, List.setIfInBounds_toArray, List.set_cons_zero, List.set_cons_succ]
    refine wpAnyH_take (i := 17) (v := undef) rfl (by kernel_rfl) (by kernel_rfl) (by kernel_rfl) (fun _ _ _ h => h) (Or.inr ⟨by rfl, rfl⟩) hHeld ?_
    try simp only [List.getElem_toArray, List.getElem_cons_succ, List.getElem_cons_zero, Act.put, List.setIfInBounds_toArray, List.set_cons_zero, List.set_cons_succ]
    refine wpAnyH_take (i := 18) (v := undef) rfl (by kernel_rfl) (by kernel_rfl) (by kernel_rfl) (fun _ _ _ h => h) (Or.inr ⟨by rfl, rfl⟩) hHeld ?_
    try simp only [List.getElem_toArray, List.getElem_cons_succ, List.getElem_cons_zero, Act.put, List.setIfInBounds_toArray, List.set_cons_zero, List.set_cons_succ]
    refine wpAnyH_take (i := 19) (v := ?v19) rfl (by kernel_rfl) (by kernel_rfl) (by kernel_rfl) (fun _ _ _ h => h) (Or.inl ⟨by rfl, ?y19⟩) hHeld ?r19
    case y19 => (intro w_ hSw; go_simp; try with_reducible rfl)
    try simp only [List.getElem_toArray, List.getElem_cons_succ, List.getElem_cons_zero, Act.put, List.setIfInBounds_toArray, List.set_cons_zero, List.set_cons_succ]
    refine wpAnyH_take (i := 20) (v := ?v20) rfl (by kernel_rfl) (by kernel_rfl) (by kernel_rfl) (fun _ _ _ h => h) (Or.inl ⟨by rfl, ?y20⟩) hHeld ?r20
    case y20 => (intro w_ hSw; go_simp; try with_reducible rfl)
    try simp only [List.getElem_toArray, List.getElem_cons_succ, List.getElem_cons_zero, Act.put, List.setIfInBounds_toArray, List.set_cons_zero, List.set_cons_succ]
    refine wpAnyH_done (by kernel_rfl) ?_ _
    go_wp2_with fail
    go_ret
    exact ⟨ret_bool HF.out.symm, HE.out _ hb3⟩
/-- **anf.keys**: where a function's variables are asked for, there are some -/
theorem keys_any (k : Int) (hk : IntsIn w.heap.size w Ak ks) (hkc : ks.length ≤ ck) (h7 : k = 7 → ∃ M, ks.length = 2 * M ∧ 1 ≤ M) : Calls Tryd.prog 40 #[.agg #[.int .i64 x, .int .i64 k, .int .i64 n, .slice Aa na ca, .slice Ak ks.length ck, .slice Al nb cb]] w fun e w' => e = .returned (.bool (keysA x k ks)) ∧ Below w.heap.size w w' := by
  by_cases h : k = 7
  · obtain ⟨M, h1, h2⟩ := h7 h
    subst h
    exact keys_fix x n Aa Al na ca nb cb hk hkc h1 h2
  · by_cases h8 : k = 8
    · subst h8
      exact keys_switch x n Aa Al na ca nb cb hk hkc
    · exact keys_other x n Aa Al na ca nb cb k h h8
end
end Go.Proofs.YtllakbiipdcboaaDoor
