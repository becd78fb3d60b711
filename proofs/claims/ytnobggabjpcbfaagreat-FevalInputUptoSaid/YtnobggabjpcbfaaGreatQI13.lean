/-
 1 texts of this seat in one: D13.
-/
import Derived.Test.YtnobggabjpcbfaaGreatQI12
set_option maxRecDepth 100000
set_option maxHeartbeats 16000000
set_option linter.unusedVariables false
set_option linter.unusedSimpArgs false
namespace Go.Proofs.YtnobggabjpcbfaaGreat
open Go.RowKit
theorem infoAnf : (Tryz.prog.info? 27).map (fun i => (i.zero, i.size, i.bytes)) = some (some (.agg #[.slice none 0 0, .bool false, .int .i64 0]), 3, 40) := by kernel_rfl
theorem undAnf : Tryz.prog.underlying 58 = some (.slice 27) := by kernel_rfl
theorem news3 (w : World) (g0 g1 g2 : Value) (T : TypeId) : ∀ q u, [g0, g1, g2][q]? = some u → (w.alloc (.cells #[g0, g1, g2] T)).cell? ((⟨w.heap.size, 0, none⟩ : Addr).add q) = some u := fun q u h => by
 rw [addr_add]
 have hn := World.alloc_heap_new w (.cells #[g0, g1, g2] T)
 generalize w.alloc (.cells #[g0, g1, g2] T) = V at hn ⊢
 match q, h with
 | 0, h => simp at h; subst h; simp [World.cell?, hn]
 | 1, h => simp at h; subst h; simp [World.cell?, hn]
 | 2, h => simp at h; subst h; simp [World.cell?, hn]
 | q + 3, h => simp at h
structure BodiesRow (W W0 wr : World) (L : List Anf) (j : Nat) (rv : Value) (Fs : List Value) : Prop where
 below : Below W0.heap.size W0 wr
 row : wr.ownsRow W0.heap.size 27 3 rv j Fs
 len : Fs.length = 3 * j
 rep : ∀ i (h : i < j) (hL : i < L.length), ∃ g0 g1 g2, Fs[3 * i]? = some g0 ∧ Fs[3 * i + 1]? = some g1 ∧ Fs[3 * i + 2]? = some g2 ∧ BodyIn W.heap.size W L[i] #[g0, g1, g2]
theorem BodiesRow.more {W W0 wr : World} {L : List Anf} {j : Nat} {rv : Value} {Fs : List Value} (h : BodiesRow W W0 wr L j rv Fs) {g0 g1 g2 : Value} (hj : j < L.length) (hb : BodyIn W.heap.size W L[j] #[g0, g1, g2]) {V w1 : World} (hV : Below wr.heap.size wr V) {rv' : Value}
 (hown : w1.ownsRow W0.heap.size 27 3 rv' (j + 1) (Fs ++ [g0, g1, g2])) (hgrow : V.grownBy w1 rv.ownBlock) : BodiesRow W W0 w1 L (j + 1) rv' (Fs ++ [g0, g1, g2]) := by
 have hb1 : Below W0.heap.size W0 V := h.below.trans (hV.mono h.below.size)
 refine ⟨hb1.grown hgrow hb1.size (fun q hq => (h.row.lt q hq).1), hown, by simp [h.len]; omega, fun i hi hL => ?_⟩
 have hl := h.len
 by_cases hij : i < j
 · obtain ⟨a, b, c, e0, e1, e2, e3⟩ := h.rep i hij hL
   exact ⟨a, b, c, by rw [List.getElem?_append_left (by omega)]; exact e0, by rw [List.getElem?_append_left (by omega)]; exact e1, by rw [List.getElem?_append_left (by omega)]; exact e2, e3⟩
 · have : i = j := by omega
   subst this
   exact ⟨g0, g1, g2, by rw [List.getElem?_append_right (by omega)]; simp [hl], by rw [List.getElem?_append_right (by omega)]; simp [hl], by rw [List.getElem?_append_right (by omega)]; simp [hl], hb⟩
def RowOf (B : Nat) (w : World) (L : List Anf) (A : Option Addr) : Prop :=
 ∀ j (h : j < L.length), ∃ bb oo A0 n0 c0 r0 r1, A = some ⟨bb, oo, none⟩ ∧ bb < w.heap.size ∧ w.cell? ⟨bb, oo + j * 3, none⟩ = some (.slice A0 n0 c0) ∧ w.cell? ⟨bb, oo + j * 3 + 1, none⟩ = some (.bool r0) ∧ w.cell? ⟨bb, oo + j * 3 + 2, none⟩ = some (.int .i64 r1) ∧ BodyIn B w L[j] #[.slice A0 n0 c0, .bool r0, .int .i64 r1]
theorem RowOf.below {B : Nat} {w w' : World} {L : List Anf} {A : Option Addr} (h : RowOf B w L A) (hB : B ≤ w.heap.size) (hb : Below w.heap.size w w') : RowOf B w' L A := fun j hj => by
 obtain ⟨bb, oo, A0, n0, c0, r0, r1, e1, e2, e3, e4, e5, e6⟩ := h j hj
 exact ⟨bb, oo, A0, n0, c0, r0, r1, e1, Nat.lt_of_lt_of_le e2 hb.size, (hb.cell (p := ⟨_, _, none⟩) e2).trans e3, (hb.cell (p := ⟨_, _, none⟩) e2).trans e4, (hb.cell (p := ⟨_, _, none⟩) e2).trans e5, e6.kept (hb.mono hB)⟩
theorem BodiesRow.whole {W W0 wr : World} {L : List Anf} {rv : Value} {Fs : List Value} (h : BodiesRow W W0 wr L L.length rv Fs) (h0 : Below W.heap.size W W0) (hL : 0 < L.length) : ∃ A c, rv = .slice A L.length c ∧ L.length ≤ c ∧ RowOf W.heap.size wr L A := by
 have hbW : Below W.heap.size W wr := h0.trans (h.below.mono h0.size)
 rcases h.row.2 with ⟨_, h0⟩ | ⟨g, cap, cur, rfl, hlo, hgg, hn, _, _, _⟩
 · omega
 · refine ⟨some ⟨g, 0, none⟩, cap, rfl, hn, fun j hj => ?_⟩
   obtain ⟨g0, g1, g2, e0, e1, e2, e3⟩ := h.rep j hj hj
   have k0 := World.ownsRow.cells h.row (g := g) rfl (3 * j) g0 e0
   have k1 := World.ownsRow.cells h.row (g := g) rfl (3 * j + 1) g1 e1
   have k2 := World.ownsRow.cells h.row (g := g) rfl (3 * j + 2) g2 e2
   rw [addr_add] at k0 k1 k2
   have e3' := e3.kept hbW
   obtain ⟨A0, c0, b0, o0, hv, -⟩ := e3.at_
   simp only [Array.mk.injEq, List.cons.injEq, and_true] at hv
   obtain ⟨rfl, rfl, rfl⟩ := hv
   exact ⟨g, 0, A0, _, c0, _, _, rfl, (h.row.lt g rfl).2, by rw [← k0, Nat.mul_comm], by rw [← k1, Nat.mul_comm]; rfl, by rw [← k2, Nat.mul_comm]; rfl, e3'⟩
def allB (p : FlatP) : List Anf := p.funs.map (·.body) ++ [p.main]
theorem bodies_any {p : FlatP} {v : Array Value} (W : World) (hin : FlatIn W.heap.size W p v) :
 Calls Tryz.prog 31 #[.agg v] W fun e w' => ∃ A c, e = .returned (.slice A (p.funs.length + 1) c) ∧ p.funs.length + 1 ≤ c ∧ RowOf W.heap.size w' (allB p) A ∧ Below W.heap.size W w' := by
 obtain ⟨Af, cf, b, o, m0, m1, m2, rfl, hcf, h56, hmain, hA, hfun⟩ := hin
 have hmain0 := hmain
 obtain ⟨A1, c1, b1, o1, hv, -⟩ := hmain.at_
 simp only [Array.mk.injEq, List.cons.injEq, and_true] at hv
 obtain ⟨rfl, rfl, rfl⟩ := hv
 obtain ⟨W0, hW0⟩ : ∃ W0, W.alloc (.cells #[.slice Af p.funs.length cf, .slice A1 p.main.len c1, .bool p.main.last.v, .int .i64 p.main.last.n] 29) = W0 := ⟨_, rfl⟩
 have hb0 : Below W.heap.size W W0 := by rw [← hW0]; exact (Below.refl _ _).alloc (Nat.le_refl _) _
 have hs0 : W.heap.size < W0.heap.size := by rw [← hW0]; simp
 have hn0 : W0.heap[W.heap.size]? = some (.cells #[.slice Af p.funs.length cf, .slice A1 p.main.len c1, .bool p.main.last.v, .int .i64 p.main.last.n] 29 (0, 0)) := by rw [← hW0]; exact World.alloc_heap_new W _
 have HC := Lib.hid (fun (V : World) (hV : Below W0.heap.size W0 V) => (show V.cell? ⟨W.heap.size, 0, none⟩ = some (.slice Af p.funs.length cf) ∧ V.cell? ⟨W.heap.size, 1, none⟩ = some (.slice A1 p.main.len c1) ∧ V.cell? ⟨W.heap.size, 2, none⟩ = some (.bool p.main.last.v) ∧ V.cell? ⟨W.heap.size, 3, none⟩ = some (.int .i64 p.main.last.n) from
  ⟨(hV.cell (p := ⟨W.heap.size, 0, none⟩) hs0).trans (by simp [World.cell?, hn0]), (hV.cell (p := ⟨W.heap.size, 1, none⟩) hs0).trans (by simp [World.cell?, hn0]), (hV.cell (p := ⟨W.heap.size, 2, none⟩) hs0).trans (by simp [World.cell?, hn0]), (hV.cell (p := ⟨W.heap.size, 3, none⟩) hs0).trans (by simp [World.cell?, hn0])⟩))
 have HF := Lib.hid (fun (j : Nat) (hj : j < p.funs.length) (V : World) (hV : Below W0.heap.size W0 V) => (show ∃ x y A0 n0 c0 r0 r1, Af = some ⟨b, o, none⟩ ∧ V.cell? ⟨b, o + j * 5, none⟩ = some (.int .i64 x) ∧ V.cell? ⟨b, o + j * 5 + 1, none⟩ = some (.int .i64 y) ∧ V.cell? ⟨b, o + j * 5 + 2, none⟩ = some (.slice A0 n0 c0) ∧ V.cell? ⟨b, o + j * 5 + 3, none⟩ = some (.bool r0) ∧ V.cell? ⟨b, o + j * 5 + 4, none⟩ = some (.int .i64 r1) ∧ BodyIn W.heap.size W p.funs[j].body #[.slice A0 n0 c0, .bool r0, .int .i64 r1] from by
  obtain ⟨g0, g1, g2, e0, e1, e2, e3, e4, e5⟩ := hfun j hj
  have hbW : Below W.heap.size W V := hb0.trans (hV.mono hb0.size)
  have hlt := (hA (by omega)).2
  have e5' := e5
  obtain ⟨A0, c0, b0, o0, hv, -⟩ := e5.at_
  simp only [Array.mk.injEq, List.cons.injEq, and_true] at hv
  obtain ⟨rfl, rfl, rfl⟩ := hv
  exact ⟨_, _, A0, _, c0, _, _, (hA (by omega)).1, (hbW.cell (p := ⟨_, _, none⟩) hlt).trans e0, (hbW.cell (p := ⟨_, _, none⟩) hlt).trans e1, (hbW.cell (p := ⟨_, _, none⟩) hlt).trans e2, (hbW.cell (p := ⟨_, _, none⟩) hlt).trans e3, (hbW.cell (p := ⟨_, _, none⟩) hlt).trans e4, e5'⟩))
 have HM := Lib.hid hmain0
 have HB0 := Lib.hid hb0
 have HLA := Lib.hid (show (allB p).length = p.funs.length + 1 from by simp [allB])
 have HLJ := Lib.hid (fun (j : Nat) (hj : j < p.funs.length) (hj2 : j < (allB p).length) => (show (allB p)[j] = p.funs[j].body from by simp [allB, hj]))
 have HLM := Lib.hid (fun (hj2 : p.funs.length < (allB p).length) => (show (allB p)[p.funs.length] = p.main from by simp [allB]))
 obtain ⟨i0, hinf, hz0, hz1, hz2⟩ := info_parts infoAnf
 obtain ⟨k0, k1, k2, k3⟩ := HC.out W0 (Below.refl _ _)
 clear hmain hmain0 hA hfun hb0 hs0 hn0
 obtain ⟨NF, hNF⟩ : ∃ n, p.funs.length = n := ⟨_, rfl⟩
 have HNF := Lib.hid hNF
 have HF' := Lib.hid (fun (j : Nat) (hj : j < NF) => HF.out j (by rw [HNF.out]; exact hj))
 have HLJ' := Lib.hid (fun (j : Nat) (hj : j < NF) (hj2 : j < (allB p).length) => (show (allB p)[j] = (p.funs[j]'(by rw [HNF.out]; exact hj)).body from HLJ.out j (by rw [HNF.out]; exact hj) hj2))
 have HLM' := Lib.hid (fun (hj2 : NF < (allB p).length) => (show (allB p)[NF] = p.main from by subst hNF; exact HLM.out hj2))
 clear HF HLJ HLM
 rw [hNF] at hcf h56 HC HLA hW0 k0 ⊢
 clear hNF
 go_enter Tryz.func31, Tryz.ntmps31
 go_wp2_with fail
 go_loopw [3, 9] (fun rv iv wr => ∃ (j : Nat) (Fs : List Value), j ≤ NF ∧ iv = .int .i64 (j : Int) ∧ Hid (BodiesRow W W0 wr (allB p) j rv Fs)) (fun _ iv _ => NF + 1 - (intOf iv).toNat)
 case atStart => exact ⟨0, [], by omega, rfl, Lib.hid ⟨Below.refl _ _, ⟨by simp, .inl ⟨rfl, rfl⟩⟩, rfl, by intro i h; omega⟩⟩
 case round =>
  obtain ⟨j, Fs, hj, rfl, HR⟩ := hrel
  obtain ⟨q0, q1, q2, q3⟩ := HC.out wr HR.out.below
  have hsz := HR.out.below.size
  by_cases hlt : j < NF
  · obtain ⟨x, y, A0, n0, c0, r0, r1, rfl, s0, s1, s2, s3, s4, hbd⟩ := HF'.out j hlt wr HR.out.below
    have e1 : (0 : Int) ≤ (j : Int) := by omega
    have e2 : (j : Int) < (NF : Int) := by omega
    have e4 : IntKind.i64.wrap ((j : Int) + 1) = (j : Int) + 1 := by rw [IntKind.wrap_i64]; omega
    have e5 : (NF : Int) ≤ (cf : Int) := by omega
    have HBD := Lib.hid hbd
    have hml : j + 1 ≤ maxLen := by unfold maxLen; omega
    have h40 : (j + 1) * 40 ≤ 140737488355328 := by omega
    obtain ⟨W1, hW1⟩ : ∃ W1, wr.alloc (.cells #[.int .i64 x, .int .i64 y, .slice A0 n0 c0, .bool r0, .int .i64 r1] 54) = W1 := ⟨_, rfl⟩
    have hb1 : Below wr.heap.size wr W1 := by rw [← hW1]; exact (Below.refl _ _).alloc (Nat.le_refl _) _
    have u0 : W1.cell? ⟨wr.heap.size, 2, none⟩ = some (.slice A0 n0 c0) := by rw [← hW1, World.cell?_alloc_at _ _ _ _ rfl]; rfl
    have u1 : W1.cell? ⟨wr.heap.size, 3, none⟩ = some (.bool r0) := by rw [← hW1, World.cell?_alloc_at _ _ _ _ rfl]; rfl
    have u2' : W1.cell? ⟨wr.heap.size, 4, none⟩ = some (.int .i64 r1) := by rw [← hW1, World.cell?_alloc_at _ _ _ _ rfl]; rfl
    have HB1 := Lib.hid hb1
    have HROW := Lib.hid (show (W1.alloc (.cells #[.slice A0 n0 c0, .bool r0, .int .i64 r1] 27)).ownsRow W0.heap.size 27 3 u3 j Fs from (HR.out.row.kept (row := none) ⟨hb1.os, hb1.tape, hb1.output, hb1.size, fun i hi _ => hb1.block i hi⟩ (by cases u3.ownBlock <;> simp)).alloc _)
    have HSZ := Lib.hid (show W0.heap.size ≤ (W1.alloc (.cells #[.slice A0 n0 c0, .bool r0, .int .i64 r1] 27)).heap.size from by rw [World.size_alloc]; exact Nat.le_succ_of_le (Nat.le_trans hsz hb1.size))
    clear hbd hb1
    go_wp2_with (at_builtin; refine wpList_append_own_at _ rfl _ _ 58 rfl W0.heap.size 27 i0 (.agg #[.slice none 0 0, .bool false, .int .i64 0]) 3 40 undAnf hinf hz0 hz1 hz2 rfl (by decide) _ _ _ rfl HROW.out ⟨W1.heap.size, 0, none⟩ 1 1 [.slice A0 n0 c0, .bool r0, .int .i64 r1] rfl rfl (news3 _ _ _ _ _) (by simp [Value.oneCell']) hml h40 HSZ.out ?_; intro v' w1 hown' hgrow _ hat)
    have hgrow' := hgrow
    change World.grownBy _ w1 u3.ownBlock at hgrow'
    have HM2 := Lib.hid (HR.out.more (by rw [HLA.out]; omega) (by rw [HLJ'.out j hlt]; exact HBD.out) (HB1.out.trans (((Below.refl _ _).alloc (Nat.le_refl _) _ : Below W1.heap.size W1 _).mono HB1.out.size)) hown' hgrow')
    clear hgrow hgrow' hown' hat
    go_roundw
    case rel => exact ⟨j + 1, _, by omega, by go_num, HM2⟩
    case measure => simp [intOf]; omega
  · have hjN : j = NF := by omega
    subst hjN
    have e2 : ¬ (j : Int) < (j : Int) := by omega
    have hml : j + 1 ≤ maxLen := by unfold maxLen; omega
    have h40 : (j + 1) * 40 ≤ 140737488355328 := by omega
    have HROW := Lib.hid (HR.out.row.alloc (.cells #[.slice A1 p.main.len c1, .bool p.main.last.v, .int .i64 p.main.last.n] 27))
    have HSZ := Lib.hid (show W0.heap.size ≤ (wr.alloc (.cells #[.slice A1 p.main.len c1, .bool p.main.last.v, .int .i64 p.main.last.n] 27)).heap.size from by rw [World.size_alloc]; exact Nat.le_succ_of_le hsz)
    have HEND := Lib.hid (fun (v' : Value) (w1 : World) (h : BodiesRow W W0 w1 (allB p) (j + 1) v' (Fs ++ [.slice A1 p.main.len c1, .bool p.main.last.v, .int .i64 p.main.last.n])) => (show ∃ A c, v' = .slice A (j + 1) c ∧ j + 1 ≤ c ∧ RowOf W.heap.size w1 (allB p) A ∧ Below W.heap.size W w1 from by
     have h' : BodiesRow W W0 w1 (allB p) (allB p).length v' (Fs ++ [.slice A1 p.main.len c1, .bool p.main.last.v, .int .i64 p.main.last.n]) := by rw [HLA.out]; exact h
     obtain ⟨A, c, e1, e2, e3⟩ := h'.whole HB0.out (by rw [HLA.out]; omega)
     rw [HLA.out] at e1 e2
     exact ⟨A, c, e1, e2, e3, HB0.out.trans (h.below.mono HB0.out.size)⟩))
    have HMORE := Lib.hid (fun (v' : Value) (w1 : World) (hown : w1.ownsRow W0.heap.size 27 3 v' (j + 1) (Fs ++ [.slice A1 p.main.len c1, .bool p.main.last.v, .int .i64 p.main.last.n])) (hg : (wr.alloc (.cells #[.slice A1 p.main.len c1, .bool p.main.last.v, .int .i64 p.main.last.n] 27)).grownBy w1 u3.ownBlock) => HR.out.more (by rw [HLA.out]; omega) (by rw [HLM'.out]; exact HM.out) ((Below.refl _ _).alloc (Nat.le_refl _) _) hown hg)
    generalize p.main.len = ml at *
    generalize p.main.last.v = mv at *
    generalize p.main.last.n = mn at *
    go_wp2_with (at_builtin; refine wpList_append_own_at _ rfl _ _ 58 rfl W0.heap.size 27 i0 (.agg #[.slice none 0 0, .bool false, .int .i64 0]) 3 40 undAnf hinf hz0 hz1 hz2 rfl (by decide) _ _ _ rfl HROW.out ⟨wr.heap.size, 0, none⟩ 1 1 [.slice A1 ml c1, .bool mv, .int .i64 mn] rfl rfl (news3 _ _ _ _ _) (by simp [Value.oneCell']) hml h40 HSZ.out ?_; intro v' w1 hown' hgrow _ hat)
    have hgrow' := hgrow
    change World.grownBy _ w1 u3.ownBlock at hgrow'
    obtain ⟨A, c, rfl, h1, h2, h3⟩ := HEND.out v' w1 (HMORE.out v' w1 hown' hgrow')
    clear hgrow hgrow' hown' hat
    go_ret
    exact ⟨A, c, rfl, h1, h2, h3⟩
end Go.Proofs.YtnobggabjpcbfaaGreat
