/-
  The law's guard: how many nodes a term has; Few.
-/
import Derived.Test.YtnolhcdfknjncaaDoorL3
set_option linter.unusedVariables false
set_option linter.unusedSimpArgs false
namespace Go.Proofs.YtnolhcdfknjncaaDoor
open Go.RowKit

mutual
def nodesE : Core → Nat
  | .mk _ _ ks cs => nodesK (1 + ks.length) cs
def nodesK : Nat → List Core → Nat
  | m, [] => m
  | m, c :: cs => if m < 400 then nodesK (m + nodesE c) cs else m
end
theorem nodesK_ge : ∀ (m : Nat) (cs : List Core), m ≤ nodesK m cs
  | m, [] => by simp [nodesK]
  | m, c :: cs => by
    simp only [nodesK]
    split
    · exact Nat.le_trans (Nat.le_add_right _ _) (nodesK_ge _ cs)
    · exact Nat.le_refl _
theorem nodesK_le {N : Nat} : ∀ (m : Nat) (cs : List Core), (∀ c ∈ cs, nodesE c ≤ N) → m ≤ N + 399 → nodesK m cs ≤ N + 399
  | m, [], _, hm => by simpa [nodesK] using hm
  | m, c :: cs, h, hm => by
    simp only [nodesK]
    split
    · have := h c (by simp)
      exact nodesK_le _ cs (fun x hx => h x (by simp [hx])) (by omega)
    · exact hm
theorem nodesK_kid : ∀ (m : Nat) (cs : List Core), nodesK m cs < 400 → ∀ c ∈ cs, m + nodesE c ≤ nodesK m cs
  | m, [], _, c, hc => by simp at hc
  | m, d :: cs, h, c, hc => by
    simp only [nodesK] at h ⊢
    split at h
    · rename_i hm
      rw [if_pos hm]
      rcases List.mem_cons.1 hc with rfl | hc
      · exact nodesK_ge _ cs
      · have := nodesK_kid _ cs h c hc
        omega
    · omega
theorem hgt_le_nodes : ∀ (t : Core), nodesE t < 400 → t.hgt ≤ nodesE t
  | .mk k n ks cs, h => by
    simp only [nodesE] at h ⊢
    have hk := nodesK_kid _ cs h
    have hg := nodesK_ge (1 + ks.length) cs
    have : hgtL cs ≤ nodesK (1 + ks.length) cs - 1 := hgtL_le (fun c hc => by
      have h1 := hk c hc
      have h2 := hgt_le_nodes c (by omega)
      omega)
    simp only [Core.hgt]
    omega
set_option maxRecDepth 100000 in
theorem nodes_bound {B : Nat} {w : World} {t : Core} {v : Array Value} (h : CoreIn B w t v) : nodesE t ≤ 18000000000000 + 400 * t.hgt := by
  induction h with
  | @mk k n ks cs Ak ck Ac cc b o G0 G1 G2 G3 hks hck hcc hcl hA c0 c1 c2 c3 hsub ih =>
    have hl := hks.1
    simp only [nodesE, Core.hgt]
    have := nodesK_le (N := 18000000000000 + 400 * hgtL cs) (1 + ks.length) cs (fun c hc => by
      obtain ⟨i, hi, rfl⟩ := List.getElem_of_mem hc
      have h1 := ih i hi
      have h2 := hgtL_get hi
      omega) (by omega)
    omega
theorem nodesK_step {m : Nat} {cs : List Core} {j : Nat} (hj : j < cs.length) (hm : m < 400) : nodesK m (cs.drop j) = nodesK (m + nodesE cs[j]) (cs.drop (j + 1)) := by
  rw [List.drop_eq_getElem_cons hj, nodesK, if_pos hm]
theorem nodesK_stop {m : Nat} {cs : List Core} (hm : ¬ m < 400) : nodesK m cs = m := by
  cases cs with
  | nil => simp [nodesK]
  | cons c cs => rw [nodesK, if_neg hm]

set_option maxRecDepth 100000 in
set_option maxHeartbeats 2000000 in
theorem nodes_any {B : Nat} {w0 : World} {t : Core} {v : Array Value} (hin : CoreIn B w0 t v) : ∀ (W : World), Stay B w0 W → B ≤ W.heap.size → t.hgt ≤ 1048576 →
    Calls Tryd.prog 20 #[.agg v, .int .i64 400] W fun e w' => e = .returned (.int .i64 (nodesE t)) ∧ Below W.heap.size W w' := by
  induction hin with
  | @mk k n ks cs Ak ck Ac cc b o G0 G1 G2 G3 hks hck hcc hcl hA c0 c1 c2 c3 hsub ih =>
    intro W hst hBW hh
    have hbd := nodes_bound (CoreIn.mk (k := k) (n := n) hks hck hcc hcl hA c0 c1 c2 c3 hsub)
    simp only [Core.hgt] at hh hbd
    obtain ⟨W0, hW0⟩ : ∃ W0, W.alloc (.cells #[.int .i64 k, .int .i64 n, .slice Ak ks.length ck, .slice Ac cs.length cc] 26) = W0 := ⟨_, rfl⟩
    have hb0 : Below W.heap.size W W0 := by rw [← hW0]; exact (Below.refl _ _).alloc (Nat.le_refl _) _
    have hs0 : W.heap.size < W0.heap.size := by rw [← hW0]; simp
    have e2 : W0.cell? ⟨W.heap.size, 2, none⟩ = some (.slice Ak ks.length ck) := by rw [← hW0, World.cell?_alloc_at _ _ _ _ rfl]; rfl
    have e3 : W0.cell? ⟨W.heap.size, 3, none⟩ = some (.slice Ac cs.length cc) := by rw [← hW0, World.cell?_alloc_at _ _ _ _ rfl]; rfl
    have hkl := hks.1
    have hst0 : Stay B w0 W0 := fun c q u hc hu => (hb0.cell (p := ⟨c, q, none⟩) (by show c < _; omega)).trans (hst _ _ _ hc hu)
    have HK := Lib.hid (fun (j : Nat) (hj : j < cs.length) (V : World) (hV : Below W0.heap.size W0 V) =>
      (show ∃ x0 x1 A2 n2 d2 A3 n3 d3, Ac = some ⟨b, o, none⟩ ∧ V.cell? ⟨b, o + j * 4, none⟩ = some (.int .i64 x0) ∧ V.cell? ⟨b, o + j * 4 + 1, none⟩ = some (.int .i64 x1) ∧ V.cell? ⟨b, o + j * 4 + 2, none⟩ = some (.slice A2 n2 d2) ∧ V.cell? ⟨b, o + j * 4 + 3, none⟩ = some (.slice A3 n3 d3) ∧
          Calls Tryd.prog 20 #[.agg #[.int .i64 x0, .int .i64 x1, .slice A2 n2 d2, .slice A3 n3 d3], .int .i64 400] V fun e w' => e = .returned (.int .i64 (nodesE cs[j])) ∧ Below V.heap.size V w' from by
        obtain ⟨x0, x1, A2, n2, d2, A3, n3, d3, hsh⟩ := (hsub j hj).shape
        have hs := hsh
        simp only [Array.mk.injEq, List.cons.injEq, and_true] at hsh
        obtain ⟨s0, s1, s2, s3⟩ := hsh
        obtain ⟨ha, hbB⟩ := hA (by omega)
        have hstV : Stay B w0 V := fun c q u hc hu => (hV.cell (p := ⟨c, q, none⟩) (by show c < _; omega)).trans (hst0 _ _ _ hc hu)
        refine ⟨x0, x1, A2, n2, d2, A3, n3, d3, ha, ?_, ?_, ?_, ?_, ?_⟩
        · rw [← s0]; exact hstV _ _ _ hbB (c0 j hj)
        · rw [← s1]; exact hstV _ _ _ hbB (c1 j hj)
        · rw [← s2]; exact hstV _ _ _ hbB (c2 j hj)
        · rw [← s3]; exact hstV _ _ _ hbB (c3 j hj)
        · rw [← hs]
          exact ih j hj V hstV (by have := hV.size; omega) (by have := hgtL_get hj; omega)))
    have HN := Lib.hid (show ∀ j (hj : j < cs.length), nodesE cs[j] ≤ 18000000000000 + 400 * 1048576 from fun j hj => by
      have h1 := nodes_bound (hsub j hj)
      have h2 := hgtL_get hj
      omega)
    have HB0 := Lib.hid hb0
    have HS0 := Lib.hid hs0
    have HBD := Lib.hid hbd
    clear ih hsub c0 c1 c2 c3 hA hst hst0 hks hb0 hbd hs0
    simp only [nodesE]
    have hck' : ks.length ≤ 17592186043904 := by omega
    have hcl' : cs.length ≤ 3000000000000 := by omega
    generalize ks.length = kl at *
    obtain ⟨cl, hcl2⟩ : ∃ cl, cs.length = cl := ⟨_, rfl⟩
    rw [hcl2] at e3 hcl' 
    have HCL := Lib.hid hcl2
    rw [hcl2] at hW0 ⊢
    clear hcl2 hcc hcl hck hkl
    go_enter Tryd.func20, Tryd.ntmps20
    go_wp2_with fail
    go_loopw [5, 6] (fun m i wr => ∃ (j mm : Nat), j ≤ cl ∧ i = .int .i64 (j : Int) ∧ m = .int .i64 (mm : Int) ∧ Hid (Below W0.heap.size W0 wr) ∧ mm ≤ 18001000000000 ∧ Hid (nodesK (1 + kl) cs = nodesK mm (cs.drop j))) (fun _ i _ => cl + 1 - (intOf i).toNat)
    case atStart => exact ⟨0, 1 + kl, by omega, rfl, by go_num, Lib.hid (Below.refl _ _), by omega, Lib.hid (by simp)⟩
    case round =>
      obtain ⟨j, mm, hj, rfl, rfl, hbel, hmm, heq⟩ := hrel
      have q2 := (hbel.out.cell (p := ⟨W.heap.size, 3, none⟩) HS0.out).trans e3
      by_cases hlt : j < cl
      · have hj0 : (0 : Int) ≤ (j : Int) := by omega
        have hjl : (j : Int) < (cl : Int) := by omega
        by_cases hm4 : mm < 400
        · have hm4' : (mm : Int) < 400 := by omega
          have hjc : j < cs.length := by rw [HCL.out]; exact hlt
          obtain ⟨x0, x1, A2, n2, d2, A3, n3, d3, rfl, r0, r1, r2, r3, hC⟩ := HK.out j hjc wr hbel.out
          have HC := Lib.hid hC
          have hnb := HN.out j hjc
          have HE := Lib.hid (heq.out.trans (nodesK_step hjc hm4))
          have HD := Lib.hid hmm
          clear hC heq hmm
          generalize nodesE cs[j] = nk at *
          go_wp2_with (go_at_call 20; refine HC.out.mono ?_; rintro e w' ⟨rfl, hb2⟩)
          go_roundw
          case rel => exact ⟨j + 1, mm + nk, by omega, by go_num, by go_num, Lib.hid (hbel.out.trans (hb2.mono hbel.out.size)), by omega, HE.out⟩
          case measure => simp [intOf]; omega
        · have hm4' : ¬ (mm : Int) < 400 := by omega
          have HE := Lib.hid (heq.out.trans (nodesK_stop hm4))
          clear heq
          go_wp2_with fail
          go_ret
          exact ⟨ret_int (by rw [HE.out]), HB0.out.trans (hbel.out.mono (Nat.le_of_lt HS0.out))⟩
      · have hjl : ¬ (j : Int) < (cl : Int) := by omega
        have hdr : cs.drop j = [] := List.drop_eq_nil_iff.2 (by rw [HCL.out]; omega)
        have HE := Lib.hid (heq.out.trans (by rw [hdr]; simp [nodesK] : _ = mm))
        clear heq hdr
        go_wp2_with fail
        go_ret
        exact ⟨ret_int (by rw [HE.out]), HB0.out.trans (hbel.out.mono (Nat.le_of_lt HS0.out))⟩
end Go.Proofs.YtnolhcdfknjncaaDoor
